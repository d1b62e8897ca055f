/- Parts of the proof, joined: no conditions of their own. -/
import Derived.Test.YtgmbmpojcnmcgaaG06
import Derived.Test.YtgmbmpojcnmcgaaG07
set_option linter.unusedVariables false
set_option linter.unusedSimpArgs false
/- Layer 13, the document: mapped, passes, first, reduced. -/
namespace Go.Proofs.Ytgmbmpojcnmcgaa
set_option maxRecDepth 100000
open Go Go.RowKit Go.Sort Go.Proofs.Ytgmbmpojcnmcgaa.Eng
def k_rmod : Sig := .arg shI fun n => .arg shI fun m => .done { pre := 0 < m ∧ m ≤ 9223372036854775807, res := I (modN n m) }
theorem c_rmod : FnOk Try.prog 48 k_rmod.con := by
  refine fnOkS mixed tys_ok (cs := []) trivial Try.func48 rfl (by kernel_rfl) Try.ntmps48 _ (h := ?_)
  intro n m
  refine ⟨rfl, fun hp => ?_⟩
  have hp : 0 < m ∧ m ≤ 9223372036854775807 := hp
  have h0 : m ≠ 0 := by omega
  conv => whnf
  repeat' ((first
    | with_reducible first | refine ⟨fun h => h, ?_⟩ | refine ⟨pk1, ?_⟩ | refine ⟨pk2, ?_⟩ | refine ⟨pk3, ?_⟩ | refine ⟨pk4, ?_⟩ | refine ⟨pk5, ?_⟩ | refine ⟨pk6, ?_⟩ | refine ⟨trivial, ?_⟩ | refine ⟨fun _ => trivial, ?_⟩ | refine ⟨rfl, ?_⟩ | refine every_i (fun hd => ?_) | refine everyN_i (fun k hk => ?_) | refine everyD_i (fun d hd => ?_) | refine fork_t (by assumption) ?_ | refine fork_f (by assumption) ?_
    | refine fork_t rfl ?_
    | refine fork_f rfl ?_
    | with_reducible first | refine fork_i (fun h => ?_) (fun h => ?_) | refine both_i ?_ ?_
    | ((with_reducible refine alike_i ?_); exact ⟨rfl, rfl, rfl⟩)
    | ((with_reducible refine fin_i ?_); (conv => whnf); refine ⟨rfl, ?_⟩)
    | refine ⟨h0, ?_⟩
    | refine ⟨of_decide_eq_true rfl, ?_⟩
    | refine ⟨fun _ => of_decide_eq_true rfl, ?_⟩
    | ((with_reducible refine ⟨?_, ?_⟩); (focus (intros; simp_all; done)))
    | ((with_reducible refine ⟨?_, ?_⟩); (focus (intros; omega)))) <;> (try (conv => whnf)))
  all_goals ((with_reducible refine leaf_i ?_); (conv => whnf))
  repeat' ((with_reducible refine And.intro ?_ ?_) <;> (try (conv => whnf)))
  all_goals (try (first | with_reducible rfl | exact True.intro | rfl | exact id | exact fun h => h | exact fun _ => rfl))
  all_goals (simp at *)
  all_goals (first | (unfold modN; rw [if_pos (by assumption)]; rcases modN_w (n := n) hp.1 hp.2 with h' | h'; exact h'; omega) | (unfold modN; rw [if_neg (by omega)]; done) | trace_state)
def k_mapped : Sig := .arg (shT tN) fun n => .arg (shT tR) fun r => .done { pre := mapPre n, res := pRec (mapR n r) }
set_option maxHeartbeats 4000000 in
theorem c_mapped : FnOk Try.prog 63 k_mapped.con := by
  refine fnOkS mixed tys_ok (cs := [(48, k_rmod.con)]) ⟨c_rmod, trivial⟩ Try.func63 rfl (by kernel_rfl) Try.ntmps63 _ (h := ?_)
  intro n r
  refine ⟨rfl, fun hp => ?_⟩
  have hp : mapPre n := hp
  by_cases h0 : n.2.1 = 0
  · have e : mapR n r = (r.1, IntKind.i64.wrap (r.2.1 + n.2.2.1), ()) := by unfold mapR; rw [if_pos h0]
    have hk : (n.2.1 == 0) = true := by rw [h0]; rfl
    rw [e]
    conv => whnf
    repeat' ((first
      | refine fork_t hk ?_
      | with_reducible first | refine ⟨fun h => h, ?_⟩ | refine ⟨pk1, ?_⟩ | refine ⟨pk2, ?_⟩ | refine ⟨pk3, ?_⟩ | refine ⟨pk4, ?_⟩ | refine ⟨pk5, ?_⟩ | refine ⟨pk6, ?_⟩ | refine ⟨trivial, ?_⟩ | refine ⟨fun _ => trivial, ?_⟩ | refine ⟨rfl, ?_⟩ | refine every_i (fun hd => ?_) | refine everyN_i (fun k hk => ?_) | refine everyD_i (fun d hd => ?_) | refine fork_t (by assumption) ?_ | refine fork_f (by assumption) ?_
      | refine fork_t rfl ?_
      | refine fork_f rfl ?_
      | with_reducible first | refine fork_i (fun h => ?_) (fun h => ?_) | refine both_i ?_ ?_
      | ((with_reducible refine alike_i ?_); exact ⟨rfl, rfl, rfl⟩)
      | ((with_reducible refine fin_i ?_); (conv => whnf); refine ⟨rfl, ?_⟩)
      | refine ⟨of_decide_eq_true rfl, ?_⟩
      | refine ⟨fun _ => of_decide_eq_true rfl, ?_⟩
      | ((with_reducible refine ⟨?_, ?_⟩); (focus (intros; simp_all; done)))
      | ((with_reducible refine ⟨?_, ?_⟩); (focus (intros; omega)))) <;> (try (conv => whnf)))
    all_goals ((with_reducible refine leaf_i ?_); (conv => whnf))
    repeat' ((with_reducible refine And.intro ?_ ?_) <;> (try (conv => whnf)))
    all_goals (try (first | with_reducible rfl | exact True.intro | rfl | exact id | exact fun h => h | exact fun _ => rfl))
  · have hk0 : (n.2.1 == 0) = false := beq_false_of_ne h0
    by_cases h1 : n.2.1 = 1
    · have e : mapR n r = (r.1, IntKind.i64.wrap (r.2.1 * n.2.2.1), ()) := by unfold mapR; rw [if_neg h0, if_pos h1]
      have hk : (n.2.1 == 1) = true := by rw [h1]; rfl
      rw [e]
      conv => whnf
      repeat' ((first
        | refine fork_f hk0 ?_
        | refine fork_t hk ?_
        | with_reducible first | refine ⟨fun h => h, ?_⟩ | refine ⟨pk1, ?_⟩ | refine ⟨pk2, ?_⟩ | refine ⟨pk3, ?_⟩ | refine ⟨pk4, ?_⟩ | refine ⟨pk5, ?_⟩ | refine ⟨pk6, ?_⟩ | refine ⟨trivial, ?_⟩ | refine ⟨fun _ => trivial, ?_⟩ | refine ⟨rfl, ?_⟩ | refine every_i (fun hd => ?_) | refine everyN_i (fun k hk => ?_) | refine everyD_i (fun d hd => ?_) | refine fork_t (by assumption) ?_ | refine fork_f (by assumption) ?_
        | refine fork_t rfl ?_
        | refine fork_f rfl ?_
        | with_reducible first | refine fork_i (fun h => ?_) (fun h => ?_) | refine both_i ?_ ?_
        | ((with_reducible refine alike_i ?_); exact ⟨rfl, rfl, rfl⟩)
        | ((with_reducible refine fin_i ?_); (conv => whnf); refine ⟨rfl, ?_⟩)
        | refine ⟨of_decide_eq_true rfl, ?_⟩
        | refine ⟨fun _ => of_decide_eq_true rfl, ?_⟩
        | ((with_reducible refine ⟨?_, ?_⟩); (focus (intros; simp_all; done)))
        | ((with_reducible refine ⟨?_, ?_⟩); (focus (intros; omega)))) <;> (try (conv => whnf)))
      all_goals ((with_reducible refine leaf_i ?_); (conv => whnf))
      repeat' ((with_reducible refine And.intro ?_ ?_) <;> (try (conv => whnf)))
      all_goals (try (first | with_reducible rfl | exact True.intro | rfl | exact id | exact fun h => h | exact fun _ => rfl))
    · have hk1 : (n.2.1 == 1) = false := beq_false_of_ne h1
      by_cases h2 : n.2.1 = 2
      · have e : mapR n r = (r.2.1, r.1, ()) := by unfold mapR; rw [if_neg h0, if_neg h1, if_pos h2]
        have hk : (n.2.1 == 2) = true := by rw [h2]; rfl
        rw [e]
        conv => whnf
        repeat' ((first
          | refine fork_f hk0 ?_
          | refine fork_f hk1 ?_
          | refine fork_t hk ?_
          | with_reducible first | refine ⟨fun h => h, ?_⟩ | refine ⟨pk1, ?_⟩ | refine ⟨pk2, ?_⟩ | refine ⟨pk3, ?_⟩ | refine ⟨pk4, ?_⟩ | refine ⟨pk5, ?_⟩ | refine ⟨pk6, ?_⟩ | refine ⟨trivial, ?_⟩ | refine ⟨fun _ => trivial, ?_⟩ | refine ⟨rfl, ?_⟩ | refine every_i (fun hd => ?_) | refine everyN_i (fun k hk => ?_) | refine everyD_i (fun d hd => ?_) | refine fork_t (by assumption) ?_ | refine fork_f (by assumption) ?_
          | refine fork_t rfl ?_
          | refine fork_f rfl ?_
          | with_reducible first | refine fork_i (fun h => ?_) (fun h => ?_) | refine both_i ?_ ?_
          | ((with_reducible refine alike_i ?_); exact ⟨rfl, rfl, rfl⟩)
          | ((with_reducible refine fin_i ?_); (conv => whnf); refine ⟨rfl, ?_⟩)
          | refine ⟨of_decide_eq_true rfl, ?_⟩
          | refine ⟨fun _ => of_decide_eq_true rfl, ?_⟩
          | ((with_reducible refine ⟨?_, ?_⟩); (focus (intros; simp_all; done)))
          | ((with_reducible refine ⟨?_, ?_⟩); (focus (intros; omega)))) <;> (try (conv => whnf)))
        all_goals ((with_reducible refine leaf_i ?_); (conv => whnf))
        repeat' ((with_reducible refine And.intro ?_ ?_) <;> (try (conv => whnf)))
        all_goals (try (first | with_reducible rfl | exact True.intro | rfl | exact id | exact fun h => h | exact fun _ => rfl))
      · have hk2 : (n.2.1 == 2) = false := beq_false_of_ne h2
        have e : mapR n r = (modN r.2.1 n.2.2.1, r.2.1, ()) := by unfold mapR; rw [if_neg h0, if_neg h1, if_neg h2]
        have hbr : 0 < n.2.2.1 ∧ n.2.2.1 ≤ 9223372036854775807 := by unfold mapPre at hp; omega
        rw [e]
        conv => whnf
        repeat' ((first
          | refine fork_f hk0 ?_
          | refine fork_f hk1 ?_
          | refine fork_f hk2 ?_
          | with_reducible first | refine ⟨fun h => h, ?_⟩ | refine ⟨pk1, ?_⟩ | refine ⟨pk2, ?_⟩ | refine ⟨pk3, ?_⟩ | refine ⟨pk4, ?_⟩ | refine ⟨pk5, ?_⟩ | refine ⟨pk6, ?_⟩ | refine ⟨trivial, ?_⟩ | refine ⟨fun _ => trivial, ?_⟩ | refine ⟨rfl, ?_⟩ | refine every_i (fun hd => ?_) | refine everyN_i (fun k hk => ?_) | refine everyD_i (fun d hd => ?_) | refine fork_t (by assumption) ?_ | refine fork_f (by assumption) ?_
          | refine fork_t rfl ?_
          | refine fork_f rfl ?_
          | with_reducible first | refine fork_i (fun h => ?_) (fun h => ?_) | refine both_i ?_ ?_
          | ((with_reducible refine alike_i ?_); exact ⟨rfl, rfl, rfl⟩)
          | ((with_reducible refine fin_i ?_); (conv => whnf); refine ⟨rfl, ?_⟩)
          | refine ⟨hbr, ?_⟩
          | refine ⟨of_decide_eq_true rfl, ?_⟩
          | refine ⟨fun _ => of_decide_eq_true rfl, ?_⟩
          | ((with_reducible refine ⟨?_, ?_⟩); (focus (intros; simp_all; done)))
          | ((with_reducible refine ⟨?_, ?_⟩); (focus (intros; omega)))) <;> (try (conv => whnf)))
        all_goals ((with_reducible refine leaf_i ?_); (conv => whnf))
        repeat' ((with_reducible refine And.intro ?_ ?_) <;> (try (conv => whnf)))
        all_goals (try (first | with_reducible rfl | exact True.intro | rfl | exact id | exact fun h => h | exact fun _ => rfl))
        all_goals (first | rfl | trace_state)
def k_rpass : Sig := .arg (shT tN) fun n => .arg (shT tR) fun r => .done { pre := filPre n, res := B (filR n r) }
set_option maxHeartbeats 4000000 in
theorem c_rpass : FnOk Try.prog 64 k_rpass.con := by
  refine fnOkS mixed tys_ok (cs := []) trivial Try.func64 rfl (by kernel_rfl) Try.ntmps64 _ (h := ?_)
  intro n r
  refine ⟨rfl, fun hp => ?_⟩
  have hp : filPre n := hp
  by_cases h0 : n.2.1 = 0
  · have e : filR n r = decide (r.2.1 < n.2.2.1) := by unfold filR; rw [if_pos h0]
    have hk : (n.2.1 == 0) = true := by rw [h0]; rfl
    rw [e]
    conv => whnf
    repeat' ((first
      | refine fork_t hk ?_
      | with_reducible first | refine ⟨fun h => h, ?_⟩ | refine ⟨pk1, ?_⟩ | refine ⟨pk2, ?_⟩ | refine ⟨pk3, ?_⟩ | refine ⟨pk4, ?_⟩ | refine ⟨pk5, ?_⟩ | refine ⟨pk6, ?_⟩ | refine ⟨trivial, ?_⟩ | refine ⟨fun _ => trivial, ?_⟩ | refine ⟨rfl, ?_⟩ | refine every_i (fun hd => ?_) | refine everyN_i (fun k hk => ?_) | refine everyD_i (fun d hd => ?_) | refine fork_t (by assumption) ?_ | refine fork_f (by assumption) ?_
      | refine fork_t rfl ?_
      | refine fork_f rfl ?_
      | with_reducible first | refine fork_i (fun h => ?_) (fun h => ?_) | refine both_i ?_ ?_
      | ((with_reducible refine alike_i ?_); exact ⟨rfl, rfl, rfl⟩)
      | ((with_reducible refine fin_i ?_); (conv => whnf); refine ⟨rfl, ?_⟩)
      | refine ⟨of_decide_eq_true rfl, ?_⟩
      | refine ⟨fun _ => of_decide_eq_true rfl, ?_⟩
      | ((with_reducible refine ⟨?_, ?_⟩); (focus (intros; simp_all; done)))
      | ((with_reducible refine ⟨?_, ?_⟩); (focus (intros; omega)))) <;> (try (conv => whnf)))
    all_goals ((with_reducible refine leaf_i ?_); (conv => whnf))
    repeat' ((with_reducible refine And.intro ?_ ?_) <;> (try (conv => whnf)))
    all_goals (try (first | with_reducible rfl | exact True.intro | rfl | exact id | exact fun h => h | exact fun _ => rfl))
  · have hk0 : (n.2.1 == 0) = false := beq_false_of_ne h0
    by_cases h1 : n.2.1 = 1
    · have e : filR n r = (r.2.1.tmod n.2.2.1 == 0) := by unfold filR; rw [if_neg h0, if_pos h1]
      have hk : (n.2.1 == 1) = true := by rw [h1]; rfl
      have hb := hp h1
      rw [e]
      conv => whnf
      repeat' ((first
        | refine fork_f hk0 ?_
        | refine fork_t hk ?_
        | with_reducible first | refine ⟨fun h => h, ?_⟩ | refine ⟨pk1, ?_⟩ | refine ⟨pk2, ?_⟩ | refine ⟨pk3, ?_⟩ | refine ⟨pk4, ?_⟩ | refine ⟨pk5, ?_⟩ | refine ⟨pk6, ?_⟩ | refine ⟨trivial, ?_⟩ | refine ⟨fun _ => trivial, ?_⟩ | refine ⟨rfl, ?_⟩ | refine every_i (fun hd => ?_) | refine everyN_i (fun k hk => ?_) | refine everyD_i (fun d hd => ?_) | refine fork_t (by assumption) ?_ | refine fork_f (by assumption) ?_
        | refine fork_t rfl ?_
        | refine fork_f rfl ?_
        | with_reducible first | refine fork_i (fun h => ?_) (fun h => ?_) | refine both_i ?_ ?_
        | ((with_reducible refine alike_i ?_); exact ⟨rfl, rfl, rfl⟩)
        | ((with_reducible refine fin_i ?_); (conv => whnf); refine ⟨rfl, ?_⟩)
        | refine ⟨hb, ?_⟩
        | refine ⟨of_decide_eq_true rfl, ?_⟩
        | refine ⟨fun _ => of_decide_eq_true rfl, ?_⟩
        | ((with_reducible refine ⟨?_, ?_⟩); (focus (intros; simp_all; done)))
        | ((with_reducible refine ⟨?_, ?_⟩); (focus (intros; omega)))) <;> (try (conv => whnf)))
      all_goals ((with_reducible refine leaf_i ?_); (conv => whnf))
      repeat' ((with_reducible refine And.intro ?_ ?_) <;> (try (conv => whnf)))
      all_goals (try (first | with_reducible rfl | exact True.intro | rfl | exact id | exact fun h => h | exact fun _ => rfl))
    · have hk1 : (n.2.1 == 1) = false := beq_false_of_ne h1
      have e : filR n r = decide (r.1 < n.2.2.1) := by unfold filR; rw [if_neg h0, if_neg h1]
      rw [e]
      conv => whnf
      repeat' ((first
        | refine fork_f hk0 ?_
        | refine fork_f hk1 ?_
        | with_reducible first | refine ⟨fun h => h, ?_⟩ | refine ⟨pk1, ?_⟩ | refine ⟨pk2, ?_⟩ | refine ⟨pk3, ?_⟩ | refine ⟨pk4, ?_⟩ | refine ⟨pk5, ?_⟩ | refine ⟨pk6, ?_⟩ | refine ⟨trivial, ?_⟩ | refine ⟨fun _ => trivial, ?_⟩ | refine ⟨rfl, ?_⟩ | refine every_i (fun hd => ?_) | refine everyN_i (fun k hk => ?_) | refine everyD_i (fun d hd => ?_) | refine fork_t (by assumption) ?_ | refine fork_f (by assumption) ?_
        | refine fork_t rfl ?_
        | refine fork_f rfl ?_
        | with_reducible first | refine fork_i (fun h => ?_) (fun h => ?_) | refine both_i ?_ ?_
        | ((with_reducible refine alike_i ?_); exact ⟨rfl, rfl, rfl⟩)
        | ((with_reducible refine fin_i ?_); (conv => whnf); refine ⟨rfl, ?_⟩)
        | refine ⟨of_decide_eq_true rfl, ?_⟩
        | refine ⟨fun _ => of_decide_eq_true rfl, ?_⟩
        | ((with_reducible refine ⟨?_, ?_⟩); (focus (intros; simp_all; done)))
        | ((with_reducible refine ⟨?_, ?_⟩); (focus (intros; omega)))) <;> (try (conv => whnf)))
      all_goals ((with_reducible refine leaf_i ?_); (conv => whnf))
      repeat' ((with_reducible refine And.intro ?_ ?_) <;> (try (conv => whnf)))
      all_goals (try (first | with_reducible rfl | exact True.intro | rfl | exact id | exact fun h => h | exact fun _ => rfl))
def k_rfirst : Sig := .arg (shR tR) fun l => .arg shI fun i => .done { pre := (0 ≤ i ∧ i < (l.length : Int)) ∧ l.length < 4611686018427387904, res := B (firstB l i.toNat) }
set_option maxHeartbeats 4000000 in
theorem c_rfirst : FnOk Try.prog 65 k_rfirst.con := by
  refine fnOkS mixed tys_ok (cs := []) trivial Try.func65 rfl (by kernel_rfl) Try.ntmps65 _ (h := ?_)
  intro l i
  refine ⟨rfl, fun hp => ?_⟩
  obtain ⟨⟨hi0, hi1⟩, hl⟩ := hp
  obtain ⟨i, rfl⟩ : ∃ n : Nat, i = n := ⟨i.toNat, by omega⟩
  have hib : 0 ≤ (i : Int) ∧ (i : Int) < (l.length : Int) := by omega
  conv => whnf
  repeat' ((first
    | with_reducible first | refine ⟨fun h => h, ?_⟩ | refine ⟨pk1, ?_⟩ | refine ⟨pk2, ?_⟩ | refine ⟨pk3, ?_⟩ | refine ⟨pk4, ?_⟩ | refine ⟨pk5, ?_⟩ | refine ⟨pk6, ?_⟩ | refine ⟨trivial, ?_⟩ | refine ⟨fun _ => trivial, ?_⟩ | refine ⟨rfl, ?_⟩ | refine every_i (fun hd => ?_) | refine everyN_i (fun k hk => ?_) | refine everyD_i (fun d hd => ?_) | refine fork_t (by assumption) ?_ | refine fork_f (by assumption) ?_
    | refine fork_t rfl ?_
    | refine fork_f rfl ?_
    | with_reducible first | refine fork_i (fun h => ?_) (fun h => ?_) | refine both_i ?_ ?_
    | ((with_reducible refine alike_i ?_); exact ⟨rfl, rfl, rfl⟩)
    | ((with_reducible refine fin_i ?_); (conv => whnf); refine ⟨rfl, ?_⟩)
    | refine ⟨of_decide_eq_true rfl, ?_⟩
    | refine ⟨fun _ => of_decide_eq_true rfl, ?_⟩
    | ((with_reducible refine ⟨?_, ?_⟩); (focus (intros; simp_all; done)))
    | ((with_reducible refine ⟨?_, ?_⟩); (focus (intros; omega)))) <;> (try (conv => whnf)))
  refine looped (σ := Nat) (fun j => [(5, I j)]) (fun _ => []) (fun j => j ≤ i ∧ ((l.take i).drop j).any (fun r => r.1 == (getE tR l i).1) = (l.take i).any fun r => r.1 == (getE tR l i).1) (fun j => i - j) 0 ⟨Nat.zero_le _, rfl⟩ ?_ ?_
  · conv => whnf
    refine ⟨rfl, leaf_i ?_⟩
    repeat' ((with_reducible refine And.intro ?_ ?_) <;> (try (conv => whnf)))
    all_goals (try (first | with_reducible rfl | exact True.intro | rfl | exact id | exact fun h => h | exact fun _ => rfl))
  · rintro j ⟨hj, hl2⟩
    dsimp only at hj hl2 ⊢
    have hjb : decide ((j : Int) < (i : Int)) = true → 0 ≤ (j : Int) ∧ (j : Int) < (l.length : Int) := fun h => by have := lt_t' h; omega
    have hlt : (l.take i).length = i := by rw [List.length_take]; omega
    have hget : j < i → getE tR (l.take i) j = getE tR l j := fun h => by
      unfold getE; rw [List.getD_eq_getElem?_getD, List.getD_eq_getElem?_getD, List.getElem?_take, if_pos h]
    conv => whnf
    repeat' ((first
      | with_reducible first | refine ⟨fun h => h, ?_⟩ | refine ⟨pk1, ?_⟩ | refine ⟨pk2, ?_⟩ | refine ⟨pk3, ?_⟩ | refine ⟨pk4, ?_⟩ | refine ⟨pk5, ?_⟩ | refine ⟨pk6, ?_⟩ | refine ⟨trivial, ?_⟩ | refine ⟨fun _ => trivial, ?_⟩ | refine ⟨rfl, ?_⟩ | refine every_i (fun hd => ?_) | refine everyN_i (fun k hk => ?_) | refine everyD_i (fun d hd => ?_) | refine fork_t (by assumption) ?_ | refine fork_f (by assumption) ?_
      | refine fork_t rfl ?_
      | refine fork_f rfl ?_
      | with_reducible first | refine fork_i (fun h => ?_) (fun h => ?_) | refine both_i ?_ ?_
      | ((with_reducible refine alike_i ?_); exact ⟨rfl, rfl, rfl⟩)
      | ((with_reducible refine fin_i ?_); (conv => whnf); refine ⟨rfl, ?_⟩)
      | refine ⟨hjb (by assumption), ?_⟩
      | refine ⟨hib, ?_⟩
      | refine ⟨of_decide_eq_true rfl, ?_⟩
      | refine ⟨fun _ => of_decide_eq_true rfl, ?_⟩
      | ((with_reducible refine ⟨?_, ?_⟩); (focus (intros; simp_all; done)))
      | ((with_reducible refine ⟨?_, ?_⟩); (focus (intros; omega)))) <;> (try (conv => whnf)))
    · have hj' : j < i := lt_t' (by assumption)
      have h : ((getE tR l j).1 == (getE tR l i).1) = true := h
      rw [drop_get (l.take i) (by omega), List.any_cons, hget hj', h, Bool.true_or] at hl2
      have e : firstB l i = false := by unfold firstB; rw [← hl2]; rfl
      all_goals ((with_reducible refine leaf_i ?_); (conv => whnf))
      repeat' ((with_reducible refine And.intro ?_ ?_) <;> (try (conv => whnf)))
      all_goals (try (first | with_reducible rfl | exact True.intro | rfl | exact id | exact fun h => h | exact fun _ => rfl))
      all_goals (first | exact e.symm | exact e | trace_state)
    · have hj' : j < i := lt_t' (by assumption)
      have h : ((getE tR l j).1 == (getE tR l i).1) = false := h
      rw [drop_get (l.take i) (by omega), List.any_cons, hget hj', h, Bool.false_or] at hl2
      refine next_i (j + 1) ⟨hj', hl2⟩ (by omega) rfl rfl ?_
      conv => whnf
      refine ⟨rfl, leaf_i ?_⟩
      repeat' ((with_reducible refine And.intro ?_ ?_) <;> (try (conv => whnf)))
      all_goals (try (first | with_reducible rfl | exact True.intro | rfl | exact id | exact fun h => h | exact fun _ => rfl))
      all_goals (first | exact wrapS (by omega) | rfl | trace_state)
    · have hj' : i ≤ j := lt_f' (by assumption)
      rw [List.drop_eq_nil_of_le (by omega), List.any_nil] at hl2
      have e : firstB l i = true := by unfold firstB; rw [← hl2]; rfl
      all_goals ((with_reducible refine leaf_i ?_); (conv => whnf))
      repeat' ((with_reducible refine And.intro ?_ ?_) <;> (try (conv => whnf)))
      all_goals (try (first | with_reducible rfl | exact True.intro | rfl | exact id | exact fun h => h | exact fun _ => rfl))
      all_goals (first | exact e.symm | exact e | trace_state)
theorem valsK_none {k : Int} {l : List Rec} {a : Int} {j : Nat} (h : j ≤ l.length) : (valsK k (l.take j)).length = 0 ↔ redK a k (l.take j) = none := by
  rw [redK_none j h]
  unfold valsK
  rw [List.length_map, List.length_eq_zero_iff, List.filter_eq_nil_iff]
  constructor
  · rintro h ⟨r, h1, h2⟩; exact h r h1 (by simp [h2])
  · intro h r h1 h2; exact h ⟨r, h1, by simpa using h2⟩
theorem valsK_le {k : Int} {l : List Rec} {j : Nat} : (valsK k (l.take j)).length ≤ j := by
  have := valsK_len (k := k) (l := l.take j)
  rw [List.length_take] at this; omega
def inR (l : List Rec) : Prop := ∀ r : Rec, r ∈ l → -9223372036854775808 ≤ r.2.1 ∧ r.2.1 ≤ 9223372036854775807
def k_reduced : Sig := .arg (shT tN) fun n => .arg shI fun k => .arg (shR tR) fun l => .done { pre := inR l ∧ l.length < 4611686018427387904, res := pRec (redD n k l) }
attribute [local irreducible] redK valsK stepV
theorem step_0 {a : Int} {o : Option Int} {v : Int} (h : a = 0) (hv : -9223372036854775808 ≤ v ∧ v ≤ 9223372036854775807) : stepV a o v = IntKind.i64.wrap (o.getD 0 + v) := by
  unfold stepV; rw [if_neg (by omega)]
  cases o with
  | none => show v = IntKind.i64.wrap (0 + v); rw [Int.zero_add, wrapI hv.1 hv.2]
  | some x => simp only; rw [if_pos h]; rfl
theorem step_1 {a : Int} {o : Option Int} {v : Int} (h : a = 1) : stepV a o v = IntKind.i64.wrap (o.getD 0 + 1) := by
  unfold stepV; rw [if_pos h]
theorem step_n {a : Int} {v : Int} (h : a ≠ 1) : stepV a none v = v := by unfold stepV; rw [if_neg h]
theorem step_2 {a : Int} {o v : Int} (h : a = 2) : stepV a (some o) v = if v < o then v else o := by unfold stepV; rw [if_neg (by omega)]; simp only; rw [if_neg (by omega), if_pos h]
theorem step_3 {a : Int} {o v : Int} (h0 : a ≠ 0) (h1 : a ≠ 1) (h : a ≠ 2) : stepV a (some o) v = if v > o then v else o := by unfold stepV; rw [if_neg h1]; simp only; rw [if_neg h0, if_neg h]
theorem cnt_some {c : Nat} {x : Int} {o : Option Int} (hc : c = 0 ↔ o = none) (ho : o = some x) : ((c : Int) == 0) = false := by
  have : c ≠ 0 := fun e => by rw [hc.1 e] at ho; cases ho
  exact beq_false_of_ne (by omega)
theorem cnt_none {c : Nat} {o : Option Int} (hc : c = 0 ↔ o = none) (ho : o = none) : ((c : Int) == 0) = true := by rw [hc.2 ho]; rfl
theorem val_2t {a v : Int} {o : Option Int} {c : Nat} (hc : c = 0 ↔ o = none) (ha : a = 2) (h : (bif ((c : Int) == 0) then true else decide (v < o.getD 0)) = true) : v = stepV a o v := by
  cases ho : o with
  | none => rw [step_n (by omega)]
  | some x => subst ho; rw [cnt_some hc rfl] at h; rw [step_2 ha, if_pos (by simpa using h)]
theorem val_2f {a v : Int} {o : Option Int} {c : Nat} (hc : c = 0 ↔ o = none) (ha : a = 2) (h : (bif ((c : Int) == 0) then true else decide (v < o.getD 0)) = false) : o.getD 0 = stepV a o v := by
  cases ho : o with
  | none => subst ho; rw [cnt_none hc rfl] at h; cases h
  | some x => subst ho; rw [cnt_some hc rfl] at h; rw [step_2 ha, if_neg (by simpa using h)]; rfl
theorem val_3t {a v : Int} {o : Option Int} {c : Nat} (hc : c = 0 ↔ o = none) (h0 : a ≠ 0) (h1 : a ≠ 1) (h2 : a ≠ 2) (h : (bif ((c : Int) == 0) then true else decide (v > o.getD 0)) = true) : v = stepV a o v := by
  cases ho : o with
  | none => rw [step_n h1]
  | some x => subst ho; rw [cnt_some hc rfl] at h; rw [step_3 h0 h1 h2, if_pos (by simpa using h)]
theorem val_3f {a v : Int} {o : Option Int} {c : Nat} (hc : c = 0 ↔ o = none) (h0 : a ≠ 0) (h1 : a ≠ 1) (h2 : a ≠ 2) (h : (bif ((c : Int) == 0) then true else decide (v > o.getD 0)) = false) : o.getD 0 = stepV a o v := by
  cases ho : o with
  | none => subst ho; rw [cnt_none hc rfl] at h; cases h
  | some x => subst ho; rw [cnt_some hc rfl] at h; rw [step_3 h0 h1 h2, if_neg (by simpa using h)]; rfl
theorem valsK_len' {k : Int} {l : List Rec} {j : Nat} (h : j < l.length) (e : (getE tR l j).1 = k) : (valsK k (l.take (j + 1))).length = (valsK k (l.take j)).length + 1 := by
  rw [valsK_take h, if_pos (by simp [e]), List.length_append]; rfl
set_option maxHeartbeats 4000000 in
theorem c_reduced : FnOk Try.prog 66 k_reduced.con := by
  refine fnOkS mixed tys_ok (cs := []) trivial Try.func66 rfl (by kernel_rfl) Try.ntmps66 _ (h := ?_)
  intro n k l
  refine ⟨rfl, fun hp => ?_⟩
  obtain ⟨hir, hl⟩ := hp
  conv => whnf
  repeat' ((first
    | with_reducible first | refine ⟨fun h => h, ?_⟩ | refine ⟨pk1, ?_⟩ | refine ⟨pk2, ?_⟩ | refine ⟨pk3, ?_⟩ | refine ⟨pk4, ?_⟩ | refine ⟨pk5, ?_⟩ | refine ⟨pk6, ?_⟩ | refine ⟨trivial, ?_⟩ | refine ⟨fun _ => trivial, ?_⟩ | refine ⟨rfl, ?_⟩ | refine every_i (fun hd => ?_) | refine everyN_i (fun k hk => ?_) | refine everyD_i (fun d hd => ?_) | refine fork_t (by assumption) ?_ | refine fork_f (by assumption) ?_
    | refine fork_t rfl ?_
    | refine fork_f rfl ?_
    | with_reducible first | refine fork_i (fun h => ?_) (fun h => ?_) | refine both_i ?_ ?_
    | ((with_reducible refine alike_i ?_); exact ⟨rfl, rfl, rfl⟩)
    | ((with_reducible refine fin_i ?_); (conv => whnf); refine ⟨rfl, ?_⟩)
    | refine ⟨of_decide_eq_true rfl, ?_⟩
    | refine ⟨fun _ => of_decide_eq_true rfl, ?_⟩
    | ((with_reducible refine ⟨?_, ?_⟩); (focus (intros; simp_all; done)))
    | ((with_reducible refine ⟨?_, ?_⟩); (focus (intros; omega)))) <;> (try (conv => whnf)))
  refine looped (σ := Nat) (fun j => [(9, I j), (8, I (valsK k (l.take j)).length)]) (fun j => [.cells (ndC false n), .cells (.cons (I 0) (.cons (I 0) .nil)), .cells (.cons (I k) (.cons (I ((redK n.2.1 k (l.take j)).getD 0)) .nil))]) (fun j => j ≤ l.length) (fun j => l.length - j) 0 (Nat.zero_le _) ?_ ?_
  · conv => whnf
    refine ⟨rfl, leaf_i ?_⟩
    repeat' ((with_reducible refine And.intro ?_ ?_) <;> (try (conv => whnf)))
    all_goals (try (first | with_reducible rfl | exact True.intro | rfl | exact id | exact fun h => h | exact fun _ => rfl))
    all_goals (first | rfl | (unfold valsK; rfl) | (unfold redK; rfl) | trace_state)
  · rintro j hj
    dsimp only at hj ⊢
    have hvl := valsK_le (k := k) (l := l) (j := j)
    have hc := valsK_none (k := k) (l := l) (a := n.2.1) hj
    conv => whnf
    repeat' ((first
      | with_reducible first | refine ⟨fun h => h, ?_⟩ | refine ⟨pk1, ?_⟩ | refine ⟨pk2, ?_⟩ | refine ⟨pk3, ?_⟩ | refine ⟨pk4, ?_⟩ | refine ⟨pk5, ?_⟩ | refine ⟨pk6, ?_⟩ | refine ⟨trivial, ?_⟩ | refine ⟨fun _ => trivial, ?_⟩ | refine ⟨rfl, ?_⟩ | refine every_i (fun hd => ?_) | refine everyN_i (fun k hk => ?_) | refine everyD_i (fun d hd => ?_) | refine fork_t (by assumption) ?_ | refine fork_f (by assumption) ?_
      | refine fork_t rfl ?_
      | refine fork_f rfl ?_
      | with_reducible first | refine fork_i (fun h => ?_) (fun h => ?_) | refine both_i ?_ ?_
      | ((with_reducible refine alike_i ?_); exact ⟨rfl, rfl, rfl⟩)
      | ((with_reducible refine fin_i ?_); (conv => whnf); refine ⟨rfl, ?_⟩)
      | refine ⟨of_decide_eq_true rfl, ?_⟩
      | refine ⟨fun _ => of_decide_eq_true rfl, ?_⟩
      | ((with_reducible refine ⟨?_, ?_⟩); (focus (intros; simp_all; done)))
      | ((with_reducible refine ⟨?_, ?_⟩); (focus (intros; omega)))) <;> (try (conv => whnf)))
    · have hj' : j < l.length := lt_t' (by assumption)
      have hne : (getE tR l j).1 ≠ k := bne_t (by assumption)
      refine next_i (j + 1) hj' (by omega) rfl rfl ?_
      conv => whnf
      refine ⟨rfl, leaf_i ?_⟩
      repeat' ((with_reducible refine And.intro ?_ ?_) <;> (try (conv => whnf)))
      all_goals (try (first | with_reducible rfl | exact True.intro | rfl | exact id | exact fun h => h | exact fun _ => rfl))
      · exact wrapS (by omega)
      · rw [valsK_take hj', if_neg (by simpa using hne), List.append_nil]
      · rw [redK_take hj', if_neg hne]
    all_goals (try (
      have hj' : j < l.length := lt_t' (by assumption)
      have he : (getE tR l j).1 = k := bne_f (by assumption)
      have hv := hir _ (getE_mem l hj')
      refine next_i (j + 1) hj' (by omega) rfl rfl ?_
      conv => whnf
      refine ⟨rfl, leaf_i ?_⟩
      repeat' ((with_reducible refine And.intro ?_ ?_) <;> (try (conv => whnf)))
      all_goals (try (first | with_reducible rfl | exact True.intro | rfl | exact id | exact fun h => h | exact fun _ => rfl))
      · exact wrapS (by omega)
      · rw [valsK_len' hj' he]; exact wrapS (by omega)
      · rw [redK_take hj', if_pos he]
        first
          | exact (step_0 (beq_t (by assumption)) hv).symm
          | exact (step_1 (beq_t (by assumption))).symm
          | exact val_2t hc (beq_t (by assumption)) (by assumption)
          | exact val_2f hc (beq_t (by assumption)) (by assumption)
          | exact val_3t hc (beq_f (b := 0) (by assumption)) (beq_f (b := 1) (by assumption)) (beq_f (b := 2) (by assumption)) (by assumption)
          | exact val_3f hc (beq_f (b := 0) (by assumption)) (beq_f (b := 1) (by assumption)) (beq_f (b := 2) (by assumption)) (by assumption)))
    · have hj' : l.length ≤ j := lt_f' (by assumption)
      rw [List.take_of_length_le hj']
      all_goals ((with_reducible refine leaf_i ?_); (conv => whnf))
      repeat' ((with_reducible refine And.intro ?_ ?_) <;> (try (conv => whnf)))
      all_goals (try (first | with_reducible rfl | exact True.intro | rfl | exact id | exact fun h => h | exact fun _ => rfl))
      all_goals (first | rfl | trace_state)
end Go.Proofs.Ytgmbmpojcnmcgaa

/- Layer 10, the document: numbers, ports, depth, Node, stays. -/
namespace Go.Proofs.Ytgmbmpojcnmcgaa
set_option maxRecDepth 100000
open Go Go.RowKit Go.Proofs.Ytgmbmpojcnmcgaa.Eng
theorem num_2 {n : Nd} (h : n.kind = 2) : numB n = n1B n := by unfold numB numK; rw [if_pos h]
theorem num_3 {n : Nd} (h : n.kind = 3) : numB n = n2B n := by unfold numB numK; rw [h]; rfl
theorem num_5 {n : Nd} (h : n.kind = 5) : numB n = n3B n := by unfold numB numK; rw [h]; rfl
theorem num_9 {n : Nd} (h : n.kind = 9) : numB n = n4B n := by unfold numB numK; rw [h]; rfl
theorem num_o {n : Nd} (h2 : n.kind ≠ 2) (h3 : n.kind ≠ 3) (h5 : n.kind ≠ 5) (h9 : n.kind ≠ 9) : numB n = (bif (bif (bif decide (n.kind ≥ 1) then decide (n.kind ≤ 10) else false) then n.a == 0 else false) then n.b == 0 else false) := by
  unfold numB numK
  rw [if_neg h2, if_neg h3, if_neg h5, if_neg h9]
  split
  · rename_i h
    have h1 : decide (n.kind ≥ 1) = true := decide_eq_true (by omega)
    have h0 : decide (n.kind ≤ 10) = true := decide_eq_true (by omega)
    rw [h1, h0]
    rfl
  · rename_i h
    by_cases h1 : n.kind ≥ 1
    · have : ¬ n.kind ≤ 10 := by omega
      simp [this]
    · simp [h1]
def k_rnumbers : Sig := .arg (shT tN) fun n => .done { pre := True, res := B (numB n) }
set_option maxHeartbeats 4000000 in
theorem c_rnumbers : FnOk Try.prog 59 k_rnumbers.con := by
  refine fnOkS mixed tys_ok (cs := []) trivial Try.func59 rfl (by kernel_rfl) Try.ntmps59 _ (h := ?_)
  intro n
  refine ⟨rfl, fun _ => ?_⟩
  conv => whnf
  repeat' ((first
    | with_reducible first | refine ⟨fun h => h, ?_⟩ | refine ⟨pk1, ?_⟩ | refine ⟨pk2, ?_⟩ | refine ⟨pk3, ?_⟩ | refine ⟨pk4, ?_⟩ | refine ⟨pk5, ?_⟩ | refine ⟨pk6, ?_⟩ | refine ⟨trivial, ?_⟩ | refine ⟨fun _ => trivial, ?_⟩ | refine ⟨rfl, ?_⟩ | refine every_i (fun hd => ?_) | refine everyN_i (fun k hk => ?_) | refine everyD_i (fun d hd => ?_) | refine fork_t (by assumption) ?_ | refine fork_f (by assumption) ?_
    | refine fork_t rfl ?_
    | refine fork_f rfl ?_
    | with_reducible first | refine fork_i (fun h => ?_) (fun h => ?_) | refine both_i ?_ ?_
    | ((with_reducible refine alike_i ?_); exact ⟨rfl, rfl, rfl⟩)
    | ((with_reducible refine fin_i ?_); (conv => whnf); refine ⟨rfl, ?_⟩)
    | refine ⟨of_decide_eq_true rfl, ?_⟩
    | refine ⟨fun _ => of_decide_eq_true rfl, ?_⟩
    | ((with_reducible refine ⟨?_, ?_⟩); (focus (intros; simp_all; done)))
    | ((with_reducible refine ⟨?_, ?_⟩); (focus (intros; omega)))) <;> (try (conv => whnf)))
  all_goals ((with_reducible refine leaf_i ?_); (conv => whnf))
  repeat' ((with_reducible refine And.intro ?_ ?_) <;> (try (conv => whnf)))
  all_goals (try (first | with_reducible rfl | exact True.intro | rfl | exact id | exact fun h => h | exact fun _ => rfl))
  · have hk : Nd.kind n = 2 := eq_of_beq h
    rw [num_2 hk]
    show _ = n1B n
    unfold n1B Nd.a Nd.b
    by_cases h1 : n.2.1 ≤ 3
    · by_cases h2 : n.2.1 < 3
      · have : (n.2.1 != 3) = true := by simp; omega
        simp [h1, h2, this]
      · have : n.2.1 = 3 := by omega
        simp [this]
    · simp [h1]
  · have hk : Nd.kind n = 3 := eq_of_beq h
    rw [num_3 hk]; rfl
  · have hk : Nd.kind n = 5 := eq_of_beq h
    rw [num_5 hk]; rfl
  · have hk : Nd.kind n = 9 := eq_of_beq h
    rw [num_9 hk]; rfl
  · rw [num_o]
    · rfl
    all_goals (unfold Nd.kind; simp_all)
theorem hasP_at (p : Int → Bool) {l : List (El tI)} {j : Nat} (hj : j < l.length) (h : p (getE tI l j).1 = true) : hasP p l = true := by
  rw [hasP_any, List.any_eq_true]
  exact ⟨_, getE_mem l hj, h⟩
theorem hasP_no (p : Int → Bool) {l : List (El tI)} (h : ∀ j, j < l.length → p (getE tI l j).1 = false) : hasP p l = false := by
  rw [hasP_any, List.any_eq_false]
  intro x hx
  obtain ⟨j, hj, e⟩ := List.getElem_of_mem hx
  have := h j hj
  unfold getE at this
  simp [hj, e] at this
  simp [this]
def k_rports : Sig := .arg (shR tN) fun g => .arg (shT tN) fun n => .done { pre := (Nd.ins n).length < 4611686018427387904, res := B (portsB g n) }
set_option maxHeartbeats 4000000 in
theorem c_rports : FnOk Try.prog 60 k_rports.con := by
  refine fnOkS mixed tys_ok (cs := []) trivial Try.func60 rfl (by kernel_rfl) Try.ntmps60 _ (h := ?_)
  intro g n
  refine ⟨rfl, fun hp => ?_⟩
  have hp : (Nd.ins n).length < 4611686018427387904 := hp
  have hgd : ∀ j : Nat, ((bif decide ((getE tI (Nd.ins n) j).1 < 0) then true else decide ((getE tI (Nd.ins n) j).1 ≥ (g.length : Int))) == false) = true → 0 ≤ (getE tI (Nd.ins n) j).1 ∧ (getE tI (Nd.ins n) j).1 < (g.length : Int) := fun j h => by
    by_cases h1 : (getE tI (Nd.ins n) j).1 < 0
    · simp [h1] at h
    · by_cases h2 : (getE tI (Nd.ins n) j).1 ≥ (g.length : Int)
      · simp [h1, h2] at h
      · omega
  conv => whnf
  repeat' ((first
    | with_reducible first | refine ⟨fun h => h, ?_⟩ | refine ⟨pk1, ?_⟩ | refine ⟨pk2, ?_⟩ | refine ⟨pk3, ?_⟩ | refine ⟨pk4, ?_⟩ | refine ⟨pk5, ?_⟩ | refine ⟨pk6, ?_⟩ | refine ⟨trivial, ?_⟩ | refine ⟨fun _ => trivial, ?_⟩ | refine ⟨rfl, ?_⟩ | refine every_i (fun hd => ?_) | refine everyN_i (fun k hk => ?_) | refine everyD_i (fun d hd => ?_) | refine fork_t (by assumption) ?_ | refine fork_f (by assumption) ?_
    | refine fork_t rfl ?_
    | refine fork_f rfl ?_
    | with_reducible first | refine fork_i (fun h => ?_) (fun h => ?_) | refine both_i ?_ ?_
    | ((with_reducible refine alike_i ?_); exact ⟨rfl, rfl, rfl⟩)
    | ((with_reducible refine fin_i ?_); (conv => whnf); refine ⟨rfl, ?_⟩)
    | refine ⟨of_decide_eq_true rfl, ?_⟩
    | refine ⟨fun _ => of_decide_eq_true rfl, ?_⟩
    | ((with_reducible refine ⟨?_, ?_⟩); (focus (intros; simp_all; done)))
    | ((with_reducible refine ⟨?_, ?_⟩); (focus (intros; omega)))) <;> (try (conv => whnf)))
  all_goals
    refine only [5, 3, 0] ?_
    (conv => whnf)
    refine looped (σ := Nat) (fun j => [(6, I j)]) (fun _ => [.cells (ndC false n)]) (fun j => j ≤ (Nd.ins n).length ∧ ∀ i, i < j → wrongB g (getE tI (Nd.ins n) i).1 = false) (fun j => (Nd.ins n).length - j) 0 ⟨Nat.zero_le _, fun i hi => absurd hi (Nat.not_lt_zero _)⟩ ?_ ?_
    · conv => whnf
      refine ⟨rfl, leaf_i ?_⟩
      repeat' ((with_reducible refine And.intro ?_ ?_) <;> (try (conv => whnf)))
      all_goals (try (first | with_reducible rfl | exact True.intro | rfl | exact id | exact fun h => h | exact fun _ => rfl))
    · rintro j ⟨hj, hw⟩
      dsimp only at hj hw ⊢
      have hgd := hgd j
      conv => whnf
      repeat' ((first
        | with_reducible first | refine ⟨fun h => h, ?_⟩ | refine ⟨pk1, ?_⟩ | refine ⟨pk2, ?_⟩ | refine ⟨pk3, ?_⟩ | refine ⟨pk4, ?_⟩ | refine ⟨pk5, ?_⟩ | refine ⟨pk6, ?_⟩ | refine ⟨trivial, ?_⟩ | refine ⟨fun _ => trivial, ?_⟩ | refine ⟨rfl, ?_⟩ | refine every_i (fun hd => ?_) | refine everyN_i (fun k hk => ?_) | refine everyD_i (fun d hd => ?_) | refine fork_t (by assumption) ?_ | refine fork_f (by assumption) ?_
        | refine fork_t rfl ?_
        | refine fork_f rfl ?_
        | with_reducible first | refine fork_i (fun h => ?_) (fun h => ?_) | refine both_i ?_ ?_
        | ((with_reducible refine alike_i ?_); exact ⟨rfl, rfl, rfl⟩)
        | ((with_reducible refine fin_i ?_); (conv => whnf); refine ⟨rfl, ?_⟩)
        | refine ⟨hgd, ?_⟩
        | refine ⟨of_decide_eq_true rfl, ?_⟩
        | refine ⟨fun _ => of_decide_eq_true rfl, ?_⟩
        | ((with_reducible refine ⟨?_, ?_⟩); (focus (intros; simp_all; done)))
        | ((with_reducible refine ⟨?_, ?_⟩); (focus (intros; omega)))) <;> (try (conv => whnf)))
      · rename_i hj'
        have hj' : j < (Nd.ins n).length := lt_t hj'
        have hwr : wrongB g (getE tI (Nd.ins n) j).1 = true := h
        have hno : portsB g n = false := by unfold portsB; rw [hasP_at (wrongB g) hj' hwr]; simp
        all_goals ((with_reducible refine leaf_i ?_); (conv => whnf))
        repeat' ((with_reducible refine And.intro ?_ ?_) <;> (try (conv => whnf)))
        all_goals (try (first | with_reducible rfl | exact True.intro | rfl | exact id | exact fun h => h | exact fun _ => rfl))
        all_goals exact hno.symm
      · rename_i hj'
        have hj' : j < (Nd.ins n).length := lt_t hj'
        have hwr : wrongB g (getE tI (Nd.ins n) j).1 = false := h
        refine next_i (j + 1) ⟨hj', fun i hi => ?_⟩ (by omega) rfl rfl ?_
        · by_cases e : i = j
          · subst e; exact hwr
          · exact hw i (by omega)
        · conv => whnf
          refine ⟨rfl, leaf_i ?_⟩
          repeat' ((with_reducible refine And.intro ?_ ?_) <;> (try (conv => whnf)))
          all_goals (try (first | with_reducible rfl | exact True.intro | rfl | exact id | exact fun h => h | exact fun _ => rfl))
          all_goals (try (first | rfl | exact wrapS (by omega)))
      · rename_i hk
        have hj' : (Nd.ins n).length ≤ j := lt_f h
        have hall : hasP (wrongB g) (Nd.ins n) = false := hasP_no _ fun i hi => hw i (by omega)
        all_goals ((with_reducible refine leaf_i ?_); (conv => whnf))
        repeat' ((with_reducible refine And.intro ?_ ?_) <;> (try (conv => whnf)))
        all_goals (try (first | with_reducible rfl | exact True.intro | rfl | exact id | exact fun h => h | exact fun _ => rfl))
        all_goals (unfold portsB; rw [hall]; simp only [arK, Nd.kind, Nd.ins, Bool.not_false, Bool.cond_true_left]; (try simp_all); done)
def earlyB (n : Nd) : Bool := bif (bif bif decide (n.2.2.2.1 < 0) then true else decide (n.2.2.2.1 > 3) then true else bif bif n.1 == 1 then true else n.1 == 10 then n.2.2.2.1 != 0 else false) then true else bif n.1 == 9 then decide (n.2.2.2.1 < 1) else false
theorem early_iff {n : Nd} : earlyB n = true ↔ (n.dep < 0 ∨ n.dep > 3) ∨ ((n.kind = 1 ∨ n.kind = 10) ∧ n.dep ≠ 0) ∨ (n.kind = 9 ∧ n.dep < 1) := by
  unfold earlyB
  simp only [Bool.cond_true_left, Bool.cond_false_right, Bool.or_eq_true, Bool.and_eq_true, decide_eq_true_eq, beq_iff_eq, bne_iff_ne, ne_eq]
  show ((n.dep < 0 ∨ n.dep > 3) ∨ ((n.kind = 1 ∨ n.kind = 10) ∧ ¬ n.dep = 0)) ∨ (n.kind = 9 ∧ n.dep < 1) ↔ _
  exact or_assoc
theorem early_no {g : List Nd} {n : Nd} (h : earlyB n = true) : depthB g n = false := by
  rw [early_iff] at h
  unfold depthB
  split
  · rfl
  · split
    · rfl
    · rename_i h1 h2
      have : n.dep < 0 ∨ n.dep > 3 := by
        rcases h with h | h | h
        · exact h
        · exact absurd h h2
        · exact absurd h h1
      rcases this with h | h
      · have : ¬ n.dep ≥ 0 := by omega
        simp [this]
      · have : ¬ n.dep ≤ 3 := by omega
        simp [this]
theorem depthB_in {g : List Nd} {n : Nd} (h : ¬ earlyB n = true) : depthB g n = !hasP (otherB g (fedK n.kind n.dep)) n.ins := by
  rw [early_iff] at h
  unfold depthB
  rw [if_neg (fun hh => h (.inr (.inr hh))), if_neg (fun hh => h (.inr (.inl hh)))]
  have h1 : decide (n.dep ≥ 0) = true := decide_eq_true (by omega)
  have h2 : decide (n.dep ≤ 3) = true := decide_eq_true (by omega)
  rw [h1, h2]; rfl
theorem no_early {n : Nd} (h : earlyB n = false) : ¬ earlyB n = true := by rw [h]; simp
theorem other_t {g : List Nd} {w x y : Int} (hf : w = x) (h : (w != (nd g y).2.2.2.1) = true) : otherB g x y = true := by
  subst hf; unfold otherB Nd.dep
  rw [bne_iff_ne] at h ⊢
  exact fun e => h e.symm
theorem other_f {g : List Nd} {w x y : Int} (hf : w = x) (h : (w != (nd g y).2.2.2.1) = false) : otherB g x y = false := by
  subst hf; unfold otherB Nd.dep
  rw [bne_eq_false_iff_eq] at h ⊢
  exact h.symm
def k_rdepth : Sig := .arg (shR tN) fun g => .arg (shT tN) fun n => .done { pre := (Nd.ins n).length < 4611686018427387904 ∧ ∀ x ∈ Nd.ins n, 0 ≤ x.1 ∧ x.1 < (g.length : Int), res := B (depthB g n) }
set_option maxHeartbeats 4000000 in
theorem c_rdepth : FnOk Try.prog 61 k_rdepth.con := by
  refine fnOkS mixed tys_ok (cs := []) trivial Try.func61 rfl (by kernel_rfl) Try.ntmps61 _ (h := ?_)
  intro g n
  refine ⟨rfl, fun hp => ?_⟩
  obtain ⟨hp1, hp2⟩ := hp
  conv => whnf
  repeat' ((first
    | with_reducible first | refine ⟨fun h => h, ?_⟩ | refine ⟨pk1, ?_⟩ | refine ⟨pk2, ?_⟩ | refine ⟨pk3, ?_⟩ | refine ⟨pk4, ?_⟩ | refine ⟨pk5, ?_⟩ | refine ⟨pk6, ?_⟩ | refine ⟨trivial, ?_⟩ | refine ⟨fun _ => trivial, ?_⟩ | refine ⟨rfl, ?_⟩ | refine every_i (fun hd => ?_) | refine everyN_i (fun k hk => ?_) | refine everyD_i (fun d hd => ?_) | refine fork_t (by assumption) ?_ | refine fork_f (by assumption) ?_
    | refine fork_t rfl ?_
    | refine fork_f rfl ?_
    | with_reducible first | refine fork_i (fun h => ?_) (fun h => ?_) | refine both_i ?_ ?_
    | ((with_reducible refine alike_i ?_); exact ⟨rfl, rfl, rfl⟩)
    | ((with_reducible refine fin_i ?_); (conv => whnf); refine ⟨rfl, ?_⟩)
    | refine ⟨of_decide_eq_true rfl, ?_⟩
    | refine ⟨fun _ => of_decide_eq_true rfl, ?_⟩
    | ((with_reducible refine ⟨?_, ?_⟩); (focus (intros; simp_all; done)))
    | ((with_reducible refine ⟨?_, ?_⟩); (focus (intros; omega)))) <;> (try (conv => whnf)))
  · have hno : depthB g n = false := early_no h
    all_goals ((with_reducible refine leaf_i ?_); (conv => whnf))
    repeat' ((with_reducible refine And.intro ?_ ?_) <;> (try (conv => whnf)))
    all_goals (try (first | with_reducible rfl | exact True.intro | rfl | exact id | exact fun h => h | exact fun _ => rfl))
    all_goals exact hno.symm
  all_goals have hin0 : ¬ earlyB n = true := no_early (by assumption)
  · have e1 : n.1 = 7 := eq_of_beq (by assumption)
    have e2 : n.1 = 8 := eq_of_beq h
    omega
  · have hfd : IntKind.i64.wrap (n.2.2.2.1 - 1) = fedK (Nd.kind n) (Nd.dep n) := by
      have e1 : Nd.kind n = 7 := eq_of_beq (by assumption)
      unfold fedK; rw [if_pos e1]; rfl
    refine only [5, 3, 0] ?_
    (conv => whnf)
    refine looped (σ := Nat) (fun j => [(6, I j)]) (fun _ => [.cells (ndC false n)]) (fun j => j ≤ (Nd.ins n).length ∧ ∀ i, i < j → otherB g (fedK (Nd.kind n) (Nd.dep n)) (getE tI (Nd.ins n) i).1 = false) (fun j => (Nd.ins n).length - j) 0 ⟨Nat.zero_le _, fun i hi => absurd hi (Nat.not_lt_zero _)⟩ ?_ ?_
    · conv => whnf
      refine ⟨rfl, leaf_i ?_⟩
      repeat' ((with_reducible refine And.intro ?_ ?_) <;> (try (conv => whnf)))
      all_goals (try (first | with_reducible rfl | exact True.intro | rfl | exact id | exact fun h => h | exact fun _ => rfl))
    · rintro j ⟨hj, hw⟩
      dsimp only at hj hw ⊢
      have hin : decide ((j : Int) < ((Nd.ins n).length : Int)) = true → 0 ≤ (getE tI (Nd.ins n) j).1 ∧ (getE tI (Nd.ins n) j).1 < (g.length : Int) := fun h => hp2 _ (getE_mem _ (lt_t h))
      conv => whnf
      repeat' ((first
        | with_reducible first | refine ⟨fun h => h, ?_⟩ | refine ⟨pk1, ?_⟩ | refine ⟨pk2, ?_⟩ | refine ⟨pk3, ?_⟩ | refine ⟨pk4, ?_⟩ | refine ⟨pk5, ?_⟩ | refine ⟨pk6, ?_⟩ | refine ⟨trivial, ?_⟩ | refine ⟨fun _ => trivial, ?_⟩ | refine ⟨rfl, ?_⟩ | refine every_i (fun hd => ?_) | refine everyN_i (fun k hk => ?_) | refine everyD_i (fun d hd => ?_) | refine fork_t (by assumption) ?_ | refine fork_f (by assumption) ?_
        | refine fork_t rfl ?_
        | refine fork_f rfl ?_
        | with_reducible first | refine fork_i (fun h => ?_) (fun h => ?_) | refine both_i ?_ ?_
        | ((with_reducible refine alike_i ?_); exact ⟨rfl, rfl, rfl⟩)
        | ((with_reducible refine fin_i ?_); (conv => whnf); refine ⟨rfl, ?_⟩)
        | refine ⟨hin (by assumption), ?_⟩
        | refine ⟨of_decide_eq_true rfl, ?_⟩
        | refine ⟨fun _ => of_decide_eq_true rfl, ?_⟩
        | ((with_reducible refine ⟨?_, ?_⟩); (focus (intros; simp_all; done)))
        | ((with_reducible refine ⟨?_, ?_⟩); (focus (intros; omega)))) <;> (try (conv => whnf)))
      · rename_i hj'
        have hj' : j < (Nd.ins n).length := lt_t hj'
        have hwr : otherB g (fedK (Nd.kind n) (Nd.dep n)) (getE tI (Nd.ins n) j).1 = true := other_t hfd h
        have hno : depthB g n = false := by rw [depthB_in hin0, hasP_at _ hj' hwr]; simp
        all_goals ((with_reducible refine leaf_i ?_); (conv => whnf))
        repeat' ((with_reducible refine And.intro ?_ ?_) <;> (try (conv => whnf)))
        all_goals (try (first | with_reducible rfl | exact True.intro | rfl | exact id | exact fun h => h | exact fun _ => rfl))
        all_goals exact hno.symm
      · rename_i hj'
        have hj' : j < (Nd.ins n).length := lt_t hj'
        have hwr : otherB g (fedK (Nd.kind n) (Nd.dep n)) (getE tI (Nd.ins n) j).1 = false := other_f hfd h
        refine next_i (j + 1) ⟨hj', fun i hi => ?_⟩ (by omega) rfl rfl ?_
        · by_cases e : i = j
          · subst e; exact hwr
          · exact hw i (by omega)
        · conv => whnf
          refine ⟨rfl, leaf_i ?_⟩
          repeat' ((with_reducible refine And.intro ?_ ?_) <;> (try (conv => whnf)))
          all_goals (try (first | with_reducible rfl | exact True.intro | rfl | exact id | exact fun h => h | exact fun _ => rfl))
          all_goals (try (first | rfl | exact wrapS (by omega)))
      · have hj' : (Nd.ins n).length ≤ j := lt_f h
        have hall : hasP (otherB g (fedK (Nd.kind n) (Nd.dep n))) (Nd.ins n) = false := hasP_no _ fun i hi => hw i (by omega)
        have hyes : depthB g n = true := by rw [depthB_in hin0, hall]; rfl
        all_goals ((with_reducible refine leaf_i ?_); (conv => whnf))
        repeat' ((with_reducible refine And.intro ?_ ?_) <;> (try (conv => whnf)))
        all_goals (try (first | with_reducible rfl | exact True.intro | rfl | exact id | exact fun h => h | exact fun _ => rfl))
        all_goals exact hyes.symm
  · have hfd : IntKind.i64.wrap (n.2.2.2.1 - -1) = fedK (Nd.kind n) (Nd.dep n) := by
      have e1 : Nd.kind n = 8 := eq_of_beq h
      unfold fedK; rw [e1, if_neg (by decide), if_pos rfl]
      show IntKind.i64.wrap (Nd.dep n - -1) = _
      congr 1
    refine only [5, 3, 0] ?_
    (conv => whnf)
    refine looped (σ := Nat) (fun j => [(6, I j)]) (fun _ => [.cells (ndC false n)]) (fun j => j ≤ (Nd.ins n).length ∧ ∀ i, i < j → otherB g (fedK (Nd.kind n) (Nd.dep n)) (getE tI (Nd.ins n) i).1 = false) (fun j => (Nd.ins n).length - j) 0 ⟨Nat.zero_le _, fun i hi => absurd hi (Nat.not_lt_zero _)⟩ ?_ ?_
    · conv => whnf
      refine ⟨rfl, leaf_i ?_⟩
      repeat' ((with_reducible refine And.intro ?_ ?_) <;> (try (conv => whnf)))
      all_goals (try (first | with_reducible rfl | exact True.intro | rfl | exact id | exact fun h => h | exact fun _ => rfl))
    · rintro j ⟨hj, hw⟩
      dsimp only at hj hw ⊢
      have hin : decide ((j : Int) < ((Nd.ins n).length : Int)) = true → 0 ≤ (getE tI (Nd.ins n) j).1 ∧ (getE tI (Nd.ins n) j).1 < (g.length : Int) := fun h => hp2 _ (getE_mem _ (lt_t h))
      conv => whnf
      repeat' ((first
        | with_reducible first | refine ⟨fun h => h, ?_⟩ | refine ⟨pk1, ?_⟩ | refine ⟨pk2, ?_⟩ | refine ⟨pk3, ?_⟩ | refine ⟨pk4, ?_⟩ | refine ⟨pk5, ?_⟩ | refine ⟨pk6, ?_⟩ | refine ⟨trivial, ?_⟩ | refine ⟨fun _ => trivial, ?_⟩ | refine ⟨rfl, ?_⟩ | refine every_i (fun hd => ?_) | refine everyN_i (fun k hk => ?_) | refine everyD_i (fun d hd => ?_) | refine fork_t (by assumption) ?_ | refine fork_f (by assumption) ?_
        | refine fork_t rfl ?_
        | refine fork_f rfl ?_
        | with_reducible first | refine fork_i (fun h => ?_) (fun h => ?_) | refine both_i ?_ ?_
        | ((with_reducible refine alike_i ?_); exact ⟨rfl, rfl, rfl⟩)
        | ((with_reducible refine fin_i ?_); (conv => whnf); refine ⟨rfl, ?_⟩)
        | refine ⟨hin (by assumption), ?_⟩
        | refine ⟨of_decide_eq_true rfl, ?_⟩
        | refine ⟨fun _ => of_decide_eq_true rfl, ?_⟩
        | ((with_reducible refine ⟨?_, ?_⟩); (focus (intros; simp_all; done)))
        | ((with_reducible refine ⟨?_, ?_⟩); (focus (intros; omega)))) <;> (try (conv => whnf)))
      · rename_i hj'
        have hj' : j < (Nd.ins n).length := lt_t hj'
        have hwr : otherB g (fedK (Nd.kind n) (Nd.dep n)) (getE tI (Nd.ins n) j).1 = true := other_t hfd h
        have hno : depthB g n = false := by rw [depthB_in hin0, hasP_at _ hj' hwr]; simp
        all_goals ((with_reducible refine leaf_i ?_); (conv => whnf))
        repeat' ((with_reducible refine And.intro ?_ ?_) <;> (try (conv => whnf)))
        all_goals (try (first | with_reducible rfl | exact True.intro | rfl | exact id | exact fun h => h | exact fun _ => rfl))
        all_goals exact hno.symm
      · rename_i hj'
        have hj' : j < (Nd.ins n).length := lt_t hj'
        have hwr : otherB g (fedK (Nd.kind n) (Nd.dep n)) (getE tI (Nd.ins n) j).1 = false := other_f hfd h
        refine next_i (j + 1) ⟨hj', fun i hi => ?_⟩ (by omega) rfl rfl ?_
        · by_cases e : i = j
          · subst e; exact hwr
          · exact hw i (by omega)
        · conv => whnf
          refine ⟨rfl, leaf_i ?_⟩
          repeat' ((with_reducible refine And.intro ?_ ?_) <;> (try (conv => whnf)))
          all_goals (try (first | with_reducible rfl | exact True.intro | rfl | exact id | exact fun h => h | exact fun _ => rfl))
          all_goals (try (first | rfl | exact wrapS (by omega)))
      · have hj' : (Nd.ins n).length ≤ j := lt_f h
        have hall : hasP (otherB g (fedK (Nd.kind n) (Nd.dep n))) (Nd.ins n) = false := hasP_no _ fun i hi => hw i (by omega)
        have hyes : depthB g n = true := by rw [depthB_in hin0, hall]; rfl
        all_goals ((with_reducible refine leaf_i ?_); (conv => whnf))
        repeat' ((with_reducible refine And.intro ?_ ?_) <;> (try (conv => whnf)))
        all_goals (try (first | with_reducible rfl | exact True.intro | rfl | exact id | exact fun h => h | exact fun _ => rfl))
        all_goals exact hyes.symm
  · have hfd : IntKind.i64.wrap (n.2.2.2.1 - 0) = fedK (Nd.kind n) (Nd.dep n) := by
      have e1 : Nd.kind n ≠ 7 := ne_of_beq_false (by assumption)
      have e2 : Nd.kind n ≠ 8 := ne_of_beq_false h
      unfold fedK; rw [if_neg e1, if_neg e2]
      rw [early_iff] at hin0
      show IntKind.i64.wrap (Nd.dep n - 0) = _
      rw [Int.sub_zero]
      exact wrapI (by omega) (by omega)
    refine only [5, 3, 0] ?_
    (conv => whnf)
    refine looped (σ := Nat) (fun j => [(6, I j)]) (fun _ => [.cells (ndC false n)]) (fun j => j ≤ (Nd.ins n).length ∧ ∀ i, i < j → otherB g (fedK (Nd.kind n) (Nd.dep n)) (getE tI (Nd.ins n) i).1 = false) (fun j => (Nd.ins n).length - j) 0 ⟨Nat.zero_le _, fun i hi => absurd hi (Nat.not_lt_zero _)⟩ ?_ ?_
    · conv => whnf
      refine ⟨rfl, leaf_i ?_⟩
      repeat' ((with_reducible refine And.intro ?_ ?_) <;> (try (conv => whnf)))
      all_goals (try (first | with_reducible rfl | exact True.intro | rfl | exact id | exact fun h => h | exact fun _ => rfl))
    · rintro j ⟨hj, hw⟩
      dsimp only at hj hw ⊢
      have hin : decide ((j : Int) < ((Nd.ins n).length : Int)) = true → 0 ≤ (getE tI (Nd.ins n) j).1 ∧ (getE tI (Nd.ins n) j).1 < (g.length : Int) := fun h => hp2 _ (getE_mem _ (lt_t h))
      conv => whnf
      repeat' ((first
        | with_reducible first | refine ⟨fun h => h, ?_⟩ | refine ⟨pk1, ?_⟩ | refine ⟨pk2, ?_⟩ | refine ⟨pk3, ?_⟩ | refine ⟨pk4, ?_⟩ | refine ⟨pk5, ?_⟩ | refine ⟨pk6, ?_⟩ | refine ⟨trivial, ?_⟩ | refine ⟨fun _ => trivial, ?_⟩ | refine ⟨rfl, ?_⟩ | refine every_i (fun hd => ?_) | refine everyN_i (fun k hk => ?_) | refine everyD_i (fun d hd => ?_) | refine fork_t (by assumption) ?_ | refine fork_f (by assumption) ?_
        | refine fork_t rfl ?_
        | refine fork_f rfl ?_
        | with_reducible first | refine fork_i (fun h => ?_) (fun h => ?_) | refine both_i ?_ ?_
        | ((with_reducible refine alike_i ?_); exact ⟨rfl, rfl, rfl⟩)
        | ((with_reducible refine fin_i ?_); (conv => whnf); refine ⟨rfl, ?_⟩)
        | refine ⟨hin (by assumption), ?_⟩
        | refine ⟨of_decide_eq_true rfl, ?_⟩
        | refine ⟨fun _ => of_decide_eq_true rfl, ?_⟩
        | ((with_reducible refine ⟨?_, ?_⟩); (focus (intros; simp_all; done)))
        | ((with_reducible refine ⟨?_, ?_⟩); (focus (intros; omega)))) <;> (try (conv => whnf)))
      · rename_i hj'
        have hj' : j < (Nd.ins n).length := lt_t hj'
        have hwr : otherB g (fedK (Nd.kind n) (Nd.dep n)) (getE tI (Nd.ins n) j).1 = true := other_t hfd h
        have hno : depthB g n = false := by rw [depthB_in hin0, hasP_at _ hj' hwr]; simp
        all_goals ((with_reducible refine leaf_i ?_); (conv => whnf))
        repeat' ((with_reducible refine And.intro ?_ ?_) <;> (try (conv => whnf)))
        all_goals (try (first | with_reducible rfl | exact True.intro | rfl | exact id | exact fun h => h | exact fun _ => rfl))
        all_goals exact hno.symm
      · rename_i hj'
        have hj' : j < (Nd.ins n).length := lt_t hj'
        have hwr : otherB g (fedK (Nd.kind n) (Nd.dep n)) (getE tI (Nd.ins n) j).1 = false := other_f hfd h
        refine next_i (j + 1) ⟨hj', fun i hi => ?_⟩ (by omega) rfl rfl ?_
        · by_cases e : i = j
          · subst e; exact hwr
          · exact hw i (by omega)
        · conv => whnf
          refine ⟨rfl, leaf_i ?_⟩
          repeat' ((with_reducible refine And.intro ?_ ?_) <;> (try (conv => whnf)))
          all_goals (try (first | with_reducible rfl | exact True.intro | rfl | exact id | exact fun h => h | exact fun _ => rfl))
          all_goals (try (first | rfl | exact wrapS (by omega)))
      · have hj' : (Nd.ins n).length ≤ j := lt_f h
        have hall : hasP (otherB g (fedK (Nd.kind n) (Nd.dep n))) (Nd.ins n) = false := hasP_no _ fun i hi => hw i (by omega)
        have hyes : depthB g n = true := by rw [depthB_in hin0, hall]; rfl
        all_goals ((with_reducible refine leaf_i ?_); (conv => whnf))
        repeat' ((with_reducible refine And.intro ?_ ?_) <;> (try (conv => whnf)))
        all_goals (try (first | with_reducible rfl | exact True.intro | rfl | exact id | exact fun h => h | exact fun _ => rfl))
        all_goals exact hyes.symm
end Go.Proofs.Ytgmbmpojcnmcgaa

/- Layer 10, the document: Node. -/
namespace Go.Proofs.Ytgmbmpojcnmcgaa
set_option maxRecDepth 100000
open Go Go.RowKit Go.Proofs.Ytgmbmpojcnmcgaa.Eng
def k_rnode : Sig := .arg (shR tN) fun g => .arg shI fun i => .done { pre := g.length < 4611686018427387904 ∧ ∀ x : Nd, x ∈ g → (Nd.ins x).length < 4611686018427387904, res := I (nodeE g i) }
set_option maxHeartbeats 4000000 in
theorem c_rnode : FnOk Try.prog 37 k_rnode.con := by
  refine fnOkS mixed tys_ok (cs := [(59, k_rnumbers.con), (60, k_rports.con), (61, k_rdepth.con)]) ⟨c_rnumbers, c_rports, c_rdepth, trivial⟩ Try.func37 rfl (by kernel_rfl) Try.ntmps37 _ (h := ?_)
  intro g i
  refine ⟨rfl, fun hp => ?_⟩
  obtain ⟨hp1, hp2⟩ := hp
  by_cases h1 : i < 0
  · have e1 : decide (i < 0) = true := by simp [h1]
    conv => whnf
    repeat' ((first
      | with_reducible first | refine ⟨fun h => h, ?_⟩ | refine ⟨pk1, ?_⟩ | refine ⟨pk2, ?_⟩ | refine ⟨pk3, ?_⟩ | refine ⟨pk4, ?_⟩ | refine ⟨pk5, ?_⟩ | refine ⟨pk6, ?_⟩ | refine ⟨trivial, ?_⟩ | refine ⟨fun _ => trivial, ?_⟩ | refine ⟨rfl, ?_⟩ | refine every_i (fun hd => ?_) | refine everyN_i (fun k hk => ?_) | refine everyD_i (fun d hd => ?_) | refine fork_t (by assumption) ?_ | refine fork_f (by assumption) ?_
      | refine fork_t rfl ?_
      | refine fork_f rfl ?_
      | with_reducible first | refine fork_i (fun h => ?_) (fun h => ?_) | refine both_i ?_ ?_
      | ((with_reducible refine alike_i ?_); exact ⟨rfl, rfl, rfl⟩)
      | ((with_reducible refine fin_i ?_); (conv => whnf); refine ⟨rfl, ?_⟩)
      | refine ⟨of_decide_eq_true rfl, ?_⟩
      | refine ⟨fun _ => of_decide_eq_true rfl, ?_⟩
      | ((with_reducible refine ⟨?_, ?_⟩); (focus (intros; simp_all; done)))
      | ((with_reducible refine ⟨?_, ?_⟩); (focus (intros; omega)))) <;> (try (conv => whnf)))
    all_goals ((with_reducible refine leaf_i ?_); (conv => whnf))
    repeat' ((with_reducible refine And.intro ?_ ?_) <;> (try (conv => whnf)))
    all_goals (try (first | with_reducible rfl | exact True.intro | rfl | exact id | exact fun h => h | exact fun _ => rfl))
    all_goals (first | rfl | (simp_all [nodeE]; done) | trace_state)
  · by_cases h2 : i ≥ (g.length : Int)
    · conv => whnf
      repeat' ((first
        | with_reducible first | refine ⟨fun h => h, ?_⟩ | refine ⟨pk1, ?_⟩ | refine ⟨pk2, ?_⟩ | refine ⟨pk3, ?_⟩ | refine ⟨pk4, ?_⟩ | refine ⟨pk5, ?_⟩ | refine ⟨pk6, ?_⟩ | refine ⟨trivial, ?_⟩ | refine ⟨fun _ => trivial, ?_⟩ | refine ⟨rfl, ?_⟩ | refine every_i (fun hd => ?_) | refine everyN_i (fun k hk => ?_) | refine everyD_i (fun d hd => ?_) | refine fork_t (by assumption) ?_ | refine fork_f (by assumption) ?_
        | refine fork_t rfl ?_
        | refine fork_f rfl ?_
        | with_reducible first | refine fork_i (fun h => ?_) (fun h => ?_) | refine both_i ?_ ?_
        | ((with_reducible refine alike_i ?_); exact ⟨rfl, rfl, rfl⟩)
        | ((with_reducible refine fin_i ?_); (conv => whnf); refine ⟨rfl, ?_⟩)
        | refine ⟨of_decide_eq_true rfl, ?_⟩
        | refine ⟨fun _ => of_decide_eq_true rfl, ?_⟩
        | ((with_reducible refine ⟨?_, ?_⟩); (focus (intros; simp_all; done)))
        | ((with_reducible refine ⟨?_, ?_⟩); (focus (intros; omega)))) <;> (try (conv => whnf)))
      all_goals ((with_reducible refine leaf_i ?_); (conv => whnf))
      repeat' ((with_reducible refine And.intro ?_ ?_) <;> (try (conv => whnf)))
      all_goals (try (first | with_reducible rfl | exact True.intro | rfl | exact id | exact fun h => h | exact fun _ => rfl))
      all_goals (first | rfl | (simp_all [nodeE]; done) | trace_state)
    · have hin : 0 ≤ i ∧ i < (g.length : Int) := by omega
      have hl : (Nd.ins (nd g i)).length < 4611686018427387904 := hp2 _ (getE_mem g (by omega))
      conv => whnf
      repeat' ((first
        | with_reducible first | refine ⟨fun h => h, ?_⟩ | refine ⟨pk1, ?_⟩ | refine ⟨pk2, ?_⟩ | refine ⟨pk3, ?_⟩ | refine ⟨pk4, ?_⟩ | refine ⟨pk5, ?_⟩ | refine ⟨pk6, ?_⟩ | refine ⟨trivial, ?_⟩ | refine ⟨fun _ => trivial, ?_⟩ | refine ⟨rfl, ?_⟩ | refine every_i (fun hd => ?_) | refine everyN_i (fun k hk => ?_) | refine everyD_i (fun d hd => ?_) | refine fork_t (by assumption) ?_ | refine fork_f (by assumption) ?_
        | refine fork_t rfl ?_
        | refine fork_f rfl ?_
        | with_reducible first | refine fork_i (fun h => ?_) (fun h => ?_) | refine both_i ?_ ?_
        | ((with_reducible refine alike_i ?_); exact ⟨rfl, rfl, rfl⟩)
        | ((with_reducible refine fin_i ?_); (conv => whnf); refine ⟨rfl, ?_⟩)
        | refine ⟨hin, ?_⟩
        | refine ⟨hl, ?_⟩
        | refine ⟨⟨hl, portsB_in (by simp_all [nd])⟩, ?_⟩
        | refine ⟨of_decide_eq_true rfl, ?_⟩
        | refine ⟨fun _ => of_decide_eq_true rfl, ?_⟩
        | ((with_reducible refine ⟨?_, ?_⟩); (focus (intros; simp_all; done)))
        | ((with_reducible refine ⟨?_, ?_⟩); (focus (intros; omega)))) <;> (try (conv => whnf)))
      all_goals ((with_reducible refine leaf_i ?_); (conv => whnf))
      repeat' ((with_reducible refine And.intro ?_ ?_) <;> (try (conv => whnf)))
      all_goals (try (first | with_reducible rfl | exact True.intro | rfl | exact id | exact fun h => h | exact fun _ => rfl))
      all_goals (first | rfl | (simp_all [nodeE, nd]; done) | trace_state)
end Go.Proofs.Ytgmbmpojcnmcgaa

/- Layer 13, the document: makes and Run. -/
namespace Go.Proofs.Ytgmbmpojcnmcgaa
set_option maxRecDepth 100000
open Go Go.RowKit Go.Sort Go.Proofs.Ytgmbmpojcnmcgaa.Eng
theorem rowN_s {n : Nd} {b : List Rec} {p : Nat} {x : List Rec} {j : Nat} : rowN n b p x (j + 1) = rowN n b p x j ++ itemN n b p x j := by
  unfold rowN; rw [List.range_succ, List.flatMap_append]; simp
theorem rmake_s {n : Nd} {l : List (El tRR)} {j : Nat} : rmakeN n l (j + 1) = rmakeN n l j ++ rowN n (getE tRR l 1).1 j (getE tRR l j).1 (getE tRR l j).1.length := by
  unfold rmakeN; rw [List.range_succ, List.flatMap_append]; simp
theorem item_2 {n : Nd} {b : List Rec} {p : Nat} {x : List Rec} {i : Nat} (h : n.1 = 2) : itemN n b p x i = [mapR n (getE tR x i)] := by unfold itemN; rw [if_pos h]
theorem item_3t {n : Nd} {b : List Rec} {p : Nat} {x : List Rec} {i : Nat} (h : n.1 = 3) (hf : filR n (getE tR x i) = true) : itemN n b p x i = [getE tR x i] := by unfold itemN; rw [if_neg (by omega), if_pos h, if_pos hf]
theorem item_3f {n : Nd} {b : List Rec} {p : Nat} {x : List Rec} {i : Nat} (h : n.1 = 3) (hf : filR n (getE tR x i) = false) : itemN n b p x i = [] := by unfold itemN; rw [if_neg (by omega), if_pos h, if_neg (by rw [hf]; simp)]
theorem item_5t {n : Nd} {b : List Rec} {p : Nat} {x : List Rec} {i : Nat} (h : n.1 = 5) (hf : firstB x i = true) : itemN n b p x i = [redD n (getE tR x i).1 x] := by unfold itemN; rw [if_neg (by omega), if_neg (by omega), if_pos h, if_pos hf]
theorem item_5f {n : Nd} {b : List Rec} {p : Nat} {x : List Rec} {i : Nat} (h : n.1 = 5) (hf : firstB x i = false) : itemN n b p x i = [] := by unfold itemN; rw [if_neg (by omega), if_neg (by omega), if_pos h, if_neg (by rw [hf]; simp)]
theorem item_6 {n : Nd} {b : List Rec} {p : Nat} {x : List Rec} {i : Nat} (h : n.1 = 6) : itemN n b p x i = if p = 0 then join1 b (getE tR x i) else [] := by unfold itemN; rw [if_neg (by omega), if_neg (by omega), if_neg (by omega), if_pos h]
theorem item_o {n : Nd} {b : List Rec} {p : Nat} {x : List Rec} {i : Nat} (h2 : n.1 ≠ 2) (h3 : n.1 ≠ 3) (h5 : n.1 ≠ 5) (h6 : n.1 ≠ 6) : itemN n b p x i = [getE tR x i] := by unfold itemN; rw [if_neg h2, if_neg h3, if_neg h5, if_neg h6]
theorem item_len {n : Nd} {b : List Rec} {p : Nat} {x : List Rec} {i c : Nat} (hb : b.length ≤ c) (h1 : 1 ≤ c) : (itemN n b p x i).length ≤ c := by
  unfold itemN
  repeat' split
  all_goals first | exact Nat.zero_le _ | exact h1 | (unfold join1; rw [List.length_map]; exact Nat.le_trans valsK_len hb)
theorem row_len {n : Nd} {b : List Rec} {p : Nat} {x : List Rec} {c : Nat} (hb : b.length ≤ c) (h1 : 1 ≤ c) : ∀ j, (rowN n b p x j).length ≤ j * c
  | 0 => by unfold rowN; simp
  | j + 1 => by
    have := row_len (n := n) (p := p) (x := x) hb h1 j
    have := item_len (n := n) (p := p) (x := x) (i := j) hb h1
    rw [rowN_s, List.length_append, Nat.succ_mul]; omega
theorem rmake_len {n : Nd} {l : List (El tRR)} {c : Nat} (hb : ∀ x : El tRR, x ∈ l → x.1.length ≤ c) (h1 : 1 ≤ c) : ∀ j, (rmakeN n l j).length ≤ j * (c * c)
  | 0 => by unfold rmakeN; simp
  | j + 1 => by
    have := rmake_len (n := n) hb h1 j
    have hg := get_few hb j
    have h3 := row_len (n := n) (p := j) (x := (getE tRR l j).1) (get_few hb 1) h1 (getE tRR l j).1.length
    have : (getE tRR l j).1.length * c ≤ c * c := Nat.mul_le_mul_right _ hg
    rw [rmake_s, List.length_append, Nat.succ_mul]; omega
def joinK (b : List Rec) (r : Rec) (j : Nat) : List Rec := (valsK r.1 (b.take j)).map fun v => (r.1, IntKind.i64.wrap (r.2.1 + v.1), ())
theorem joinK_t {b : List Rec} {r : Rec} {j : Nat} (h : j < b.length) (e : (getE tR b j).1 = r.1) : joinK b r (j + 1) = joinK b r j ++ [(r.1, IntKind.i64.wrap (r.2.1 + (getE tR b j).2.1), ())] := by
  unfold joinK; rw [valsK_take h, if_pos (by simp [e]), List.map_append]; rfl
theorem joinK_f {b : List Rec} {r : Rec} {j : Nat} (h : j < b.length) (e : (getE tR b j).1 ≠ r.1) : joinK b r (j + 1) = joinK b r j := by
  unfold joinK; rw [valsK_take h, if_neg (by simpa using e), List.append_nil]
theorem joinK_len {b : List Rec} {r : Rec} {j : Nat} : (joinK b r j).length ≤ j := by unfold joinK; rw [List.length_map]; exact valsK_le
theorem joinK_end {b : List Rec} {r : Rec} {j : Nat} (h : b.length ≤ j) : joinK b r j = join1 b r := by unfold joinK join1; rw [List.take_of_length_le h]
def inRR (l : List (El tRR)) : Prop := ∀ x : El tRR, x ∈ l → inR x.1
def rmakePre (n : Nd) (l : List (El tRR)) : Prop := (l.length ≤ 10 ∧ ∀ x : El tRR, x ∈ l → x.1.length ≤ 3000) ∧ inRR l ∧ (n.1 = 2 → mapPre n) ∧ (n.1 = 3 → filPre n) ∧ (n.1 = 6 → 1 < l.length)
def k_makes : Sig := .arg (shT tN) fun n => .arg (shR tRR) fun l => .done { pre := rmakePre n l, res := .ow 0 2 (rmakeN n l l.length).length, new := [.row true tR 36 (rmakeN n l l.length)] }
attribute [local irreducible] rowN itemN rmakeN joinK redD
set_option maxHeartbeats 16000000 in
theorem c_makes : FnOk Try.prog 39 k_makes.con := by
  refine fnOkS mixed tys_ok (cs := [(63, k_mapped.con), (64, k_rpass.con), (65, k_rfirst.con), (66, k_reduced.con)]) ⟨c_mapped, c_rpass, c_rfirst, c_reduced, trivial⟩ Try.func39 rfl (by kernel_rfl) Try.ntmps39 _ (h := ?_)
  intro n l
  refine ⟨rfl, fun hp => ?_⟩
  obtain ⟨⟨hp1, hp2⟩, hp3, hp4, hp5, hp6⟩ := hp
  conv => whnf
  repeat' ((first
    | with_reducible first | refine ⟨fun h => h, ?_⟩ | refine ⟨pk1, ?_⟩ | refine ⟨pk2, ?_⟩ | refine ⟨pk3, ?_⟩ | refine ⟨pk4, ?_⟩ | refine ⟨pk5, ?_⟩ | refine ⟨pk6, ?_⟩ | refine ⟨trivial, ?_⟩ | refine ⟨fun _ => trivial, ?_⟩ | refine ⟨rfl, ?_⟩ | refine every_i (fun hd => ?_) | refine everyN_i (fun k hk => ?_) | refine everyD_i (fun d hd => ?_) | refine fork_t (by assumption) ?_ | refine fork_f (by assumption) ?_
    | refine fork_t rfl ?_
    | refine fork_f rfl ?_
    | with_reducible first | refine fork_i (fun h => ?_) (fun h => ?_) | refine both_i ?_ ?_
    | ((with_reducible refine alike_i ?_); exact ⟨rfl, rfl, rfl⟩)
    | ((with_reducible refine fin_i ?_); (conv => whnf); refine ⟨rfl, ?_⟩)
    | refine ⟨of_decide_eq_true rfl, ?_⟩
    | refine ⟨fun _ => of_decide_eq_true rfl, ?_⟩
    | ((with_reducible refine ⟨?_, ?_⟩); (focus (intros; simp_all; done)))
    | ((with_reducible refine ⟨?_, ?_⟩); (focus (intros; omega)))) <;> (try (conv => whnf)))
  refine looped (σ := Nat × List Rec) (fun x => [(6, I x.1), (5, .ow 1 2 x.2.length)]) (fun x => [.cells (ndC false n), .row true tR 36 x.2]) (fun x => x.1 ≤ l.length ∧ x.2 = rmakeN n l x.1) (fun x => l.length - x.1) (0, []) ⟨Nat.zero_le _, by unfold rmakeN; rfl⟩ ?_ ?_
  · conv => whnf
    refine ⟨rfl, leaf_i ?_⟩
    repeat' ((with_reducible refine And.intro ?_ ?_) <;> (try (conv => whnf)))
    all_goals (try (first | with_reducible rfl | exact True.intro | rfl | exact id | exact fun h => h | exact fun _ => rfl))
    all_goals (first | rfl | trace_state)
  · rintro ⟨p, o⟩ ⟨hp, ho⟩
    dsimp only at hp ho ⊢
    conv => whnf
    repeat' ((first
      | with_reducible first | refine ⟨fun h => h, ?_⟩ | refine ⟨pk1, ?_⟩ | refine ⟨pk2, ?_⟩ | refine ⟨pk3, ?_⟩ | refine ⟨pk4, ?_⟩ | refine ⟨pk5, ?_⟩ | refine ⟨pk6, ?_⟩ | refine ⟨trivial, ?_⟩ | refine ⟨fun _ => trivial, ?_⟩ | refine ⟨rfl, ?_⟩ | refine every_i (fun hd => ?_) | refine everyN_i (fun k hk => ?_) | refine everyD_i (fun d hd => ?_) | refine fork_t (by assumption) ?_ | refine fork_f (by assumption) ?_
      | refine fork_t rfl ?_
      | refine fork_f rfl ?_
      | with_reducible first | refine fork_i (fun h => ?_) (fun h => ?_) | refine both_i ?_ ?_
      | ((with_reducible refine alike_i ?_); exact ⟨rfl, rfl, rfl⟩)
      | ((with_reducible refine fin_i ?_); (conv => whnf); refine ⟨rfl, ?_⟩)
      | refine ⟨of_decide_eq_true rfl, ?_⟩
      | refine ⟨fun _ => of_decide_eq_true rfl, ?_⟩
      | ((with_reducible refine ⟨?_, ?_⟩); (focus (intros; simp_all; done)))
      | ((with_reducible refine ⟨?_, ?_⟩); (focus (intros; omega)))) <;> (try (conv => whnf)))
    · have hp' : p < l.length := lt_t' (by assumption)
      have hgx : (getE tRR l p).1.length ≤ 3000 := get_few hp2 p
      have hg1 : (getE tRR l 1).1.length ≤ 3000 := get_few hp2 1
      have hpb : 0 ≤ (p : Int) ∧ (p : Int) < (l.length : Int) := by omega
      have hrl := rmake_len (n := n) (c := 3000) hp2 (by decide) p
      have hpm : p * (3000 * 3000) ≤ 10 * (3000 * 3000) := Nat.mul_le_mul_right _ (by omega)
      refine only [6, 4, 2, 1, 0] ?_
      (conv => whnf)
      refine looped (σ := Nat × List Rec) (fun y => [(7, I y.1), (5, .ow 1 2 y.2.length)]) (fun y => [.cells (ndC false n), .row true tR 36 y.2]) (fun y => y.1 ≤ (getE tRR l p).1.length ∧ y.2 = rmakeN n l p ++ rowN n (getE tRR l 1).1 p (getE tRR l p).1 y.1) (fun y => (getE tRR l p).1.length - y.1) (0, o) ⟨Nat.zero_le _, by dsimp only; rw [ho]; unfold rowN; simp⟩ ?_ ?_
      · conv => whnf
        refine ⟨rfl, leaf_i ?_⟩
        repeat' ((with_reducible refine And.intro ?_ ?_) <;> (try (conv => whnf)))
        all_goals (try (first | with_reducible rfl | exact True.intro | rfl | exact id | exact fun h => h | exact fun _ => rfl))
        all_goals (first | rfl | trace_state)
      · rintro ⟨i, o2⟩ ⟨hi, ho2⟩
        dsimp only at hi ho2 ⊢
        have hrow := row_len (n := n) (p := p) (x := (getE tRR l p).1) (c := 3000) hg1 (by decide) i
        have hob : o2.length ≤ 100000000 := by rw [ho2, List.length_append]; omega
        have hib : decide ((i : Int) < ((getE tRR l p).1.length : Int)) = true → 0 ≤ (i : Int) ∧ (i : Int) < ((getE tRR l p).1.length : Int) := fun h => by have := lt_t' h; omega
        have hfp : decide ((i : Int) < ((getE tRR l p).1.length : Int)) = true → (0 ≤ (i : Int) ∧ (i : Int) < ((getE tRR l p).1.length : Int)) ∧ (getE tRR l p).1.length < 4611686018427387904 := fun h => ⟨hib h, by omega⟩
        have hrp : inR (getE tRR l p).1 ∧ (getE tRR l p).1.length < 4611686018427387904 := ⟨hp3 _ (getE_mem l hp'), by omega⟩
        have h1b : n.1 = 6 → 0 ≤ (1 : Int) ∧ (1 : Int) < (l.length : Int) := fun h => by have := hp6 h; omega
        have hal : ∀ r : Rec, (o2 ++ [r]).length ≤ 1000000000 := fun r => by rw [List.length_append, List.length_cons, List.length_nil]; omega
        conv => whnf
        repeat' ((first
          | with_reducible first | refine ⟨fun h => h, ?_⟩ | refine ⟨pk1, ?_⟩ | refine ⟨pk2, ?_⟩ | refine ⟨pk3, ?_⟩ | refine ⟨pk4, ?_⟩ | refine ⟨pk5, ?_⟩ | refine ⟨pk6, ?_⟩ | refine ⟨trivial, ?_⟩ | refine ⟨fun _ => trivial, ?_⟩ | refine ⟨rfl, ?_⟩ | refine every_i (fun hd => ?_) | refine everyN_i (fun k hk => ?_) | refine everyD_i (fun d hd => ?_) | refine fork_t (by assumption) ?_ | refine fork_f (by assumption) ?_
          | refine fork_t rfl ?_
          | refine fork_f rfl ?_
          | with_reducible first | refine fork_i (fun h => ?_) (fun h => ?_) | refine both_i ?_ ?_
          | ((with_reducible refine alike_i ?_); exact ⟨rfl, rfl, rfl⟩)
          | ((with_reducible refine fin_i ?_); (conv => whnf); refine ⟨rfl, ?_⟩)
          | refine ⟨hpb, ?_⟩
          | refine ⟨hib (by assumption), ?_⟩
          | refine ⟨hp4 (beq_t (by assumption)), ?_⟩
          | refine ⟨hp5 (beq_t (by assumption)), ?_⟩
          | refine ⟨hfp (by assumption), ?_⟩
          | refine ⟨hrp, ?_⟩
          | refine ⟨hal _, ?_⟩
          | refine ⟨of_decide_eq_true rfl, ?_⟩
          | refine ⟨fun _ => of_decide_eq_true rfl, ?_⟩
          | ((with_reducible refine ⟨?_, ?_⟩); (focus (intros; simp_all; done)))
          | ((with_reducible refine ⟨?_, ?_⟩); (focus (intros; omega)))) <;> (try (conv => whnf)))
        · have hi' : i < (getE tRR l p).1.length := lt_t' (by assumption)
          refine next_i (i + 1, o2 ++ [mapR n (getE tR (getE tRR l p).1 i)]) ⟨hi', by dsimp only; rw [rowN_s, item_2 (beq_t (by assumption)), ← List.append_assoc, ← ho2]⟩ (by dsimp only; omega) rfl rfl ?_
          conv => whnf
          refine ⟨rfl, leaf_i ?_⟩
          repeat' ((with_reducible refine And.intro ?_ ?_) <;> (try (conv => whnf)))
          all_goals (try (first | with_reducible rfl | exact True.intro | rfl | exact id | exact fun h => h | exact fun _ => rfl))
          all_goals (first | exact wrapS (by omega) | rfl | trace_state)
        · have hi' : i < (getE tRR l p).1.length := lt_t' (by assumption)
          refine next_i (i + 1, o2 ++ [getE tR (getE tRR l p).1 i]) ⟨hi', by dsimp only; rw [rowN_s, item_3t (beq_t (by assumption)) (by assumption), ← List.append_assoc, ← ho2]⟩ (by dsimp only; omega) rfl rfl ?_
          conv => whnf
          refine ⟨rfl, leaf_i ?_⟩
          repeat' ((with_reducible refine And.intro ?_ ?_) <;> (try (conv => whnf)))
          all_goals (try (first | with_reducible rfl | exact True.intro | rfl | exact id | exact fun h => h | exact fun _ => rfl))
          all_goals (first | exact wrapS (by omega) | rfl | trace_state)
        · have hi' : i < (getE tRR l p).1.length := lt_t' (by assumption)
          refine next_i (i + 1, o2) ⟨hi', by dsimp only; rw [rowN_s, item_3f (beq_t (by assumption)) (by assumption), List.append_nil]; exact ho2⟩ (by dsimp only; omega) rfl rfl ?_
          conv => whnf
          refine ⟨rfl, leaf_i ?_⟩
          repeat' ((with_reducible refine And.intro ?_ ?_) <;> (try (conv => whnf)))
          all_goals (try (first | with_reducible rfl | exact True.intro | rfl | exact id | exact fun h => h | exact fun _ => rfl))
          all_goals (first | exact wrapS (by omega) | rfl | trace_state)
        · have hi' : i < (getE tRR l p).1.length := lt_t' (by assumption)
          refine next_i (i + 1, o2 ++ [redD n (getE tR (getE tRR l p).1 i).1 (getE tRR l p).1]) ⟨hi', by dsimp only; rw [rowN_s, item_5t (beq_t (by assumption)) (by assumption), ← List.append_assoc, ← ho2]⟩ (by dsimp only; omega) rfl rfl ?_
          conv => whnf
          refine ⟨rfl, leaf_i ?_⟩
          repeat' ((with_reducible refine And.intro ?_ ?_) <;> (try (conv => whnf)))
          all_goals (try (first | with_reducible rfl | exact True.intro | rfl | exact id | exact fun h => h | exact fun _ => rfl))
          all_goals (first | exact wrapS (by omega) | rfl | trace_state)
        · have hi' : i < (getE tRR l p).1.length := lt_t' (by assumption)
          refine next_i (i + 1, o2) ⟨hi', by dsimp only; rw [rowN_s, item_5f (beq_t (by assumption)) (by assumption), List.append_nil]; exact ho2⟩ (by dsimp only; omega) rfl rfl ?_
          conv => whnf
          refine ⟨rfl, leaf_i ?_⟩
          repeat' ((with_reducible refine And.intro ?_ ?_) <;> (try (conv => whnf)))
          all_goals (try (first | with_reducible rfl | exact True.intro | rfl | exact id | exact fun h => h | exact fun _ => rfl))
          all_goals (first | exact wrapS (by omega) | rfl | trace_state)
        · have hi' : i < (getE tRR l p).1.length := lt_t' (by assumption)
          have h6 : n.1 = 6 := beq_t (by assumption)
          have h1b := h1b h6
          refine only [8, 7, 6, 4, 2, 1, 0] ?_
          (conv => whnf)
          refine looped (σ := Nat × List Rec) (fun y => [(9, I y.1), (5, .ow 1 2 y.2.length)]) (fun y => [.cells (ndC false n), .row true tR 36 y.2, .cells (.cons (I (getE tR (getE tRR l p).1 i).1) (.cons (I (getE tR (getE tRR l p).1 i).2.1) .nil))]) (fun y => y.1 ≤ (getE tRR l 1).1.length ∧ y.2 = o2 ++ if p = 0 then joinK (getE tRR l 1).1 (getE tR (getE tRR l p).1 i) y.1 else []) (fun y => (getE tRR l 1).1.length - y.1) (0, o2) ⟨Nat.zero_le _, by dsimp only; split <;> (try unfold joinK valsK) <;> simp⟩ ?_ ?_
          · conv => whnf
            refine ⟨rfl, leaf_i ?_⟩
            repeat' ((with_reducible refine And.intro ?_ ?_) <;> (try (conv => whnf)))
            all_goals (try (first | with_reducible rfl | exact True.intro | rfl | exact id | exact fun h => h | exact fun _ => rfl))
            all_goals (first | rfl | trace_state)
          · rintro ⟨k, o3⟩ ⟨hk, ho3⟩
            dsimp only at hk ho3 ⊢
            have hkb : decide ((k : Int) < ((getE tRR l 1).1.length : Int)) = true → 0 ≤ (k : Int) ∧ (k : Int) < ((getE tRR l 1).1.length : Int) := fun h => by have := lt_t' h; omega
            have hol3 : o3.length ≤ 100003000 := by
              have := joinK_len (b := (getE tRR l 1).1) (r := getE tR (getE tRR l p).1 i) (j := k)
              rw [ho3, List.length_append]
              split
              · omega
              · simp; omega
            have hal3 : ∀ r : Rec, (o3 ++ [r]).length ≤ 1000000000 := fun r => by rw [List.length_append, List.length_cons, List.length_nil]; omega
            conv => whnf
            repeat' ((first
              | with_reducible first | refine ⟨fun h => h, ?_⟩ | refine ⟨pk1, ?_⟩ | refine ⟨pk2, ?_⟩ | refine ⟨pk3, ?_⟩ | refine ⟨pk4, ?_⟩ | refine ⟨pk5, ?_⟩ | refine ⟨pk6, ?_⟩ | refine ⟨trivial, ?_⟩ | refine ⟨fun _ => trivial, ?_⟩ | refine ⟨rfl, ?_⟩ | refine every_i (fun hd => ?_) | refine everyN_i (fun k hk => ?_) | refine everyD_i (fun d hd => ?_) | refine fork_t (by assumption) ?_ | refine fork_f (by assumption) ?_
              | refine fork_t rfl ?_
              | refine fork_f rfl ?_
              | with_reducible first | refine fork_i (fun h => ?_) (fun h => ?_) | refine both_i ?_ ?_
              | ((with_reducible refine alike_i ?_); exact ⟨rfl, rfl, rfl⟩)
              | ((with_reducible refine fin_i ?_); (conv => whnf); refine ⟨rfl, ?_⟩)
              | refine ⟨h1b, ?_⟩
              | refine ⟨hkb (by assumption), ?_⟩
              | refine ⟨fun _ => h1b, ?_⟩
              | refine ⟨fun _ => hkb (by assumption), ?_⟩
              | refine ⟨hal3 _, ?_⟩
              | refine ⟨of_decide_eq_true rfl, ?_⟩
              | refine ⟨fun _ => of_decide_eq_true rfl, ?_⟩
              | ((with_reducible refine ⟨?_, ?_⟩); (focus (intros; simp_all; done)))
              | ((with_reducible refine ⟨?_, ?_⟩); (focus (intros; omega)))) <;> (try (conv => whnf)))
            · have hk' : k < (getE tRR l 1).1.length := lt_t' (by assumption)
              have h : (bif ((p : Int) == 0) then ((getE tR (getE tRR l 1).1 k).1 == (getE tR (getE tRR l p).1 i).1) else false) = true := by assumption
              have hp0 : p = 0 := by
                cases hq : ((p : Int) == 0) with
                | true => have := eq_of_beq hq; omega
                | false => rw [hq] at h; cases h
              have he : (getE tR (getE tRR l 1).1 k).1 = (getE tR (getE tRR l p).1 i).1 := by
                have hq : ((p : Int) == 0) = true := by rw [hp0]; rfl
                rw [hq] at h; exact eq_of_beq h
              refine next_i (k + 1, o3 ++ [((getE tR (getE tRR l p).1 i).1, IntKind.i64.wrap ((getE tR (getE tRR l p).1 i).2.1 + (getE tR (getE tRR l 1).1 k).2.1), ())]) ⟨hk', by dsimp only; rw [if_pos hp0, joinK_t hk' he, ← List.append_assoc, ho3, if_pos hp0]⟩ (by dsimp only; omega) rfl rfl ?_
              conv => whnf
              refine ⟨rfl, leaf_i ?_⟩
              repeat' ((with_reducible refine And.intro ?_ ?_) <;> (try (conv => whnf)))
              all_goals (try (first | with_reducible rfl | exact True.intro | rfl | exact id | exact fun h => h | exact fun _ => rfl))
              all_goals (first | exact wrapS (by omega) | rfl | trace_state)
            · have hk' : k < (getE tRR l 1).1.length := lt_t' (by assumption)
              have h : (bif ((p : Int) == 0) then ((getE tR (getE tRR l 1).1 k).1 == (getE tR (getE tRR l p).1 i).1) else false) = false := by assumption
              refine next_i (k + 1, o3) ⟨hk', ?_⟩ (by dsimp only; omega) rfl rfl ?_
              · dsimp only
                rw [ho3]
                by_cases hp0 : p = 0
                · have hq : ((p : Int) == 0) = true := by rw [hp0]; rfl
                  rw [hq] at h
                  rw [if_pos hp0, if_pos hp0, joinK_f hk' (ne_of_beq_false h)]
                · rw [if_neg hp0, if_neg hp0]
              · conv => whnf
                refine ⟨rfl, leaf_i ?_⟩
                repeat' ((with_reducible refine And.intro ?_ ?_) <;> (try (conv => whnf)))
                all_goals (try (first | with_reducible rfl | exact True.intro | rfl | exact id | exact fun h => h | exact fun _ => rfl))
                all_goals (first | exact wrapS (by omega) | rfl | trace_state)
            · have hk' : (getE tRR l 1).1.length ≤ k := lt_f' (by assumption)
              refine next_i (i + 1, o3) ⟨hi', ?_⟩ (by dsimp only; omega) rfl rfl ?_
              · dsimp only
                rw [rowN_s, item_6 h6, ← List.append_assoc, ← ho2, ho3, joinK_end hk']
              · conv => whnf
                refine ⟨rfl, leaf_i ?_⟩
                repeat' ((with_reducible refine And.intro ?_ ?_) <;> (try (conv => whnf)))
                all_goals (try (first | with_reducible rfl | exact True.intro | rfl | exact id | exact fun h => h | exact fun _ => rfl))
                all_goals (first | exact wrapS (by omega) | rfl | trace_state)
        · have hi' : i < (getE tRR l p).1.length := lt_t' (by assumption)
          refine next_i (i + 1, o2 ++ [getE tR (getE tRR l p).1 i]) ⟨hi', by dsimp only; rw [rowN_s, item_o (beq_f (by assumption)) (beq_f (by assumption)) (beq_f (by assumption)) (beq_f (by assumption)), ← List.append_assoc, ← ho2]⟩ (by dsimp only; omega) rfl rfl ?_
          conv => whnf
          refine ⟨rfl, leaf_i ?_⟩
          repeat' ((with_reducible refine And.intro ?_ ?_) <;> (try (conv => whnf)))
          all_goals (try (first | with_reducible rfl | exact True.intro | rfl | exact id | exact fun h => h | exact fun _ => rfl))
          all_goals (first | exact wrapS (by omega) | rfl | trace_state)
        · have hi' : (getE tRR l p).1.length ≤ i := lt_f' (by assumption)
          have e : i = (getE tRR l p).1.length := by omega
          refine next_i (p + 1, o2) ⟨hp', by dsimp only; rw [rmake_s, ho2, e]⟩ (by dsimp only; omega) rfl rfl ?_
          conv => whnf
          refine ⟨rfl, leaf_i ?_⟩
          repeat' ((with_reducible refine And.intro ?_ ?_) <;> (try (conv => whnf)))
          all_goals (try (first | with_reducible rfl | exact True.intro | rfl | exact id | exact fun h => h | exact fun _ => rfl))
          all_goals (first | exact wrapS (by omega) | rfl | trace_state)
    · have hp' : l.length ≤ p := lt_f' (by assumption)
      have e : o = rmakeN n l l.length := by rw [ho, show p = l.length by omega]
      all_goals ((with_reducible refine leaf_i ?_); (conv => whnf))
      repeat' ((with_reducible refine And.intro ?_ ?_) <;> (try (conv => whnf)))
      all_goals (try (first | with_reducible rfl | exact True.intro | rfl | exact id | exact fun h => h | exact fun _ => rfl))
      all_goals (first | exact e | (rw [e]; done) | trace_state)
attribute [local irreducible] nodeE srtR numB makeN
def rrunPre (n : Nd) (l : List (El tRR)) : Prop := (l.length ≤ 10 ∧ ∀ x : El tRR, x ∈ l → x.1.length ≤ 3000) ∧ inRR l ∧ 0 ≤ n.2.1 ∧ n.2.2.1 ≤ 9223372036854775807
theorem map_pre' {n : Nd} (h : numB n = true) (hk : n.1 = 2) (ha : 0 ≤ n.2.1) (hb : n.2.2.1 ≤ 9223372036854775807) : mapPre n := by
  obtain ⟨k, a, b, d, ins, u⟩ := n
  have hk : k = 2 := hk
  subst hk
  exact map_pre h ha hb
theorem fil_pre' {n : Nd} (h : numB n = true) (hk : n.1 = 3) : filPre n := by
  obtain ⟨k, a, b, d, ins, u⟩ := n
  have hk : k = 3 := hk
  subst hk
  exact fil_pre h
theorem ar_1 {k : Int} (h : k = 1) : arityN k = 0 := by unfold arityN; rw [if_pos h]
theorem ar_4 {k : Int} (h : k = 4) : arityN k = 2 := by unfold arityN; rw [if_neg (by omega), if_pos (.inl h)]
theorem ar_6 {k : Int} (h : k = 6) : arityN k = 2 := by unfold arityN; rw [if_neg (by omega), if_pos (.inr h)]
theorem ar_o {k : Int} (h1 : k ≠ 1) (h4 : k ≠ 4) (h6 : k ≠ 6) : arityN k = 1 := by unfold arityN; rw [if_neg h1, if_neg (by omega)]
def k_rrun : Sig := .arg (shT tN) fun n => .arg (shR tRR) fun l => .done { pre := rrunPre n l, res := .tup (.cons (.ow 0 2 (runN n l).1.length) (.cons (I (runN n l).2) .nil)), new := [.row true tR 36 (runN n l).1] }
set_option maxHeartbeats 8000000 in
theorem c_rrun : FnOk Try.prog 15 k_rrun.con := by
  refine fnOkS mixed tys_ok (cs := [(37, k_rnode.con), (39, k_makes.con), (38, k_rsrt.con)]) ⟨c_rnode, c_makes, c_rsrt, trivial⟩ Try.func15 rfl (by kernel_rfl) Try.ntmps15 _ (h := ?_)
  rintro ⟨k, a, b, d, ins, u⟩ l
  refine ⟨rfl, fun hp => ?_⟩
  obtain ⟨⟨hp1, hp2⟩, hp5, hp4, hp3⟩ := hp
  have hnp := node_few (k, a, b, 0, [], ()) rfl
  have hp3 : b ≤ 9223372036854775807 := hp3
  have hp4 : 0 ≤ a := hp4
  cases hN : numB (k, a, b, d, ins, u) with
  | false =>
    have hn := num_node k a b d ins u hN
    have e := run_bad (l := l) hN
    rw [e]
    conv => whnf
    repeat' ((first
      | refine fork_t hn ?_
      | with_reducible first | refine ⟨fun h => h, ?_⟩ | refine ⟨pk1, ?_⟩ | refine ⟨pk2, ?_⟩ | refine ⟨pk3, ?_⟩ | refine ⟨pk4, ?_⟩ | refine ⟨pk5, ?_⟩ | refine ⟨pk6, ?_⟩ | refine ⟨trivial, ?_⟩ | refine ⟨fun _ => trivial, ?_⟩ | refine ⟨rfl, ?_⟩ | refine every_i (fun hd => ?_) | refine everyN_i (fun k hk => ?_) | refine everyD_i (fun d hd => ?_) | refine fork_t (by assumption) ?_ | refine fork_f (by assumption) ?_
      | refine fork_t rfl ?_
      | refine fork_f rfl ?_
      | with_reducible first | refine fork_i (fun h => ?_) (fun h => ?_) | refine both_i ?_ ?_
      | ((with_reducible refine alike_i ?_); exact ⟨rfl, rfl, rfl⟩)
      | ((with_reducible refine fin_i ?_); (conv => whnf); refine ⟨rfl, ?_⟩)
      | refine ⟨hnp, ?_⟩
      | refine ⟨of_decide_eq_true rfl, ?_⟩
      | refine ⟨fun _ => of_decide_eq_true rfl, ?_⟩
      | ((with_reducible refine ⟨?_, ?_⟩); (focus (intros; simp_all; done)))
      | ((with_reducible refine ⟨?_, ?_⟩); (focus (intros; omega)))) <;> (try (conv => whnf)))
    all_goals ((with_reducible refine leaf_i ?_); (conv => whnf))
    repeat' ((with_reducible refine And.intro ?_ ?_) <;> (try (conv => whnf)))
    all_goals (try (first | with_reducible rfl | exact True.intro | rfl | exact id | exact fun h => h | exact fun _ => rfl))
    all_goals trace_state
  | true =>
    have hn := num_node k a b d ins u hN
    by_cases hlen : (l.length : Int) = arityN k
    · have e := run_ok' (n := (k, a, b, d, ins, u)) hN hlen
      have hmk := make_same (n := (k, a, b, d, ins, u)) hlen
      rw [e, ← hmk]
      have hbig : (rmakeN (k, a, b, d, ins, u) l l.length).length ≤ 1000000000 := by
        have := rmake_len (n := (k, a, b, d, ins, u)) (c := 3000) hp2 (by decide) l.length
        have : l.length * (3000 * 3000) ≤ 10 * (3000 * 3000) := Nat.mul_le_mul_right _ hp1
        omega
      have hrm : rmakePre (k, a, b, d, ins, u) l := ⟨⟨hp1, hp2⟩, hp5, fun h => map_pre' hN h hp4 hp3, fun h => fil_pre' hN h, fun h => by have h : k = 6 := h; rw [ar_6 h] at hlen; omega⟩
      have hl0 : k = 1 → ((l.length : Int) != 0) = false := fun h => by rw [hlen, ar_1 h]; rfl
      have hl2 : k = 4 → ((l.length : Int) != 2) = false := fun h => by rw [hlen, ar_4 h]; rfl
      have hl6 : k = 6 → ((l.length : Int) != 2) = false := fun h => by rw [hlen, ar_6 h]; rfl
      have hl1 : k ≠ 1 → k ≠ 4 → k ≠ 6 → ((l.length : Int) != 1) = false := fun h1 h4 h6 => by rw [hlen, ar_o h1 h4 h6]; rfl
      conv => whnf
      repeat' ((first
        | refine fork_f hn ?_
        | refine fork_f (hl0 (beq_t (by assumption))) ?_
        | refine fork_f (hl2 (beq_t (by assumption))) ?_
        | refine fork_f (hl6 (beq_t (by assumption))) ?_
        | refine fork_f (hl1 (beq_f (by assumption)) (beq_f (by assumption)) (beq_f (by assumption))) ?_
        | with_reducible first | refine ⟨fun h => h, ?_⟩ | refine ⟨pk1, ?_⟩ | refine ⟨pk2, ?_⟩ | refine ⟨pk3, ?_⟩ | refine ⟨pk4, ?_⟩ | refine ⟨pk5, ?_⟩ | refine ⟨pk6, ?_⟩ | refine ⟨trivial, ?_⟩ | refine ⟨fun _ => trivial, ?_⟩ | refine ⟨rfl, ?_⟩ | refine every_i (fun hd => ?_) | refine everyN_i (fun k hk => ?_) | refine everyD_i (fun d hd => ?_) | refine fork_t (by assumption) ?_ | refine fork_f (by assumption) ?_
        | refine fork_t rfl ?_
        | refine fork_f rfl ?_
        | with_reducible first | refine fork_i (fun h => ?_) (fun h => ?_) | refine both_i ?_ ?_
        | ((with_reducible refine alike_i ?_); exact ⟨rfl, rfl, rfl⟩)
        | ((with_reducible refine fin_i ?_); (conv => whnf); refine ⟨rfl, ?_⟩)
        | refine ⟨hnp, ?_⟩
        | refine ⟨hrm, ?_⟩
        | refine ⟨hbig, ?_⟩
        | refine ⟨of_decide_eq_true rfl, ?_⟩
        | refine ⟨fun _ => of_decide_eq_true rfl, ?_⟩
        | ((with_reducible refine ⟨?_, ?_⟩); (focus (intros; simp_all; done)))
        | ((with_reducible refine ⟨?_, ?_⟩); (focus (intros; omega)))) <;> (try (conv => whnf)))
      all_goals ((with_reducible refine leaf_i ?_); (conv => whnf))
      repeat' ((with_reducible refine And.intro ?_ ?_) <;> (try (conv => whnf)))
      all_goals (try (first | with_reducible rfl | exact True.intro | rfl | exact id | exact fun h => h | exact fun _ => rfl))
      all_goals trace_state
    · have e := run_len (n := (k, a, b, d, ins, u)) hN hlen
      rw [e]
      have hl0 : k = 1 → ((l.length : Int) != 0) = true := fun h => by rw [ar_1 h] at hlen; simpa using hlen
      have hl2 : k = 4 → ((l.length : Int) != 2) = true := fun h => by rw [ar_4 h] at hlen; simpa using hlen
      have hl6 : k = 6 → ((l.length : Int) != 2) = true := fun h => by rw [ar_6 h] at hlen; simpa using hlen
      have hl1 : k ≠ 1 → k ≠ 4 → k ≠ 6 → ((l.length : Int) != 1) = true := fun h1 h4 h6 => by rw [ar_o h1 h4 h6] at hlen; simpa using hlen
      conv => whnf
      repeat' ((first
        | refine fork_f hn ?_
        | refine fork_t (hl0 (beq_t (by assumption))) ?_
        | refine fork_t (hl2 (beq_t (by assumption))) ?_
        | refine fork_t (hl6 (beq_t (by assumption))) ?_
        | refine fork_t (hl1 (beq_f (by assumption)) (beq_f (by assumption)) (beq_f (by assumption))) ?_
        | with_reducible first | refine ⟨fun h => h, ?_⟩ | refine ⟨pk1, ?_⟩ | refine ⟨pk2, ?_⟩ | refine ⟨pk3, ?_⟩ | refine ⟨pk4, ?_⟩ | refine ⟨pk5, ?_⟩ | refine ⟨pk6, ?_⟩ | refine ⟨trivial, ?_⟩ | refine ⟨fun _ => trivial, ?_⟩ | refine ⟨rfl, ?_⟩ | refine every_i (fun hd => ?_) | refine everyN_i (fun k hk => ?_) | refine everyD_i (fun d hd => ?_) | refine fork_t (by assumption) ?_ | refine fork_f (by assumption) ?_
        | refine fork_t rfl ?_
        | refine fork_f rfl ?_
        | with_reducible first | refine fork_i (fun h => ?_) (fun h => ?_) | refine both_i ?_ ?_
        | ((with_reducible refine alike_i ?_); exact ⟨rfl, rfl, rfl⟩)
        | ((with_reducible refine fin_i ?_); (conv => whnf); refine ⟨rfl, ?_⟩)
        | refine ⟨hnp, ?_⟩
        | refine ⟨of_decide_eq_true rfl, ?_⟩
        | refine ⟨fun _ => of_decide_eq_true rfl, ?_⟩
        | ((with_reducible refine ⟨?_, ?_⟩); (focus (intros; simp_all; done)))
        | ((with_reducible refine ⟨?_, ?_⟩); (focus (intros; omega)))) <;> (try (conv => whnf)))
      all_goals ((with_reducible refine leaf_i ?_); (conv => whnf))
      repeat' ((with_reducible refine And.intro ?_ ?_) <;> (try (conv => whnf)))
      all_goals (try (first | with_reducible rfl | exact True.intro | rfl | exact id | exact fun h => h | exact fun _ => rfl))
      all_goals trace_state
end Go.Proofs.Ytgmbmpojcnmcgaa

/- Layer 13: to which worker a record goes. -/
namespace Go.Proofs.Ytgmbmpojcnmcgaa
set_option maxRecDepth 100000
open Go Go.RowKit Go.Proofs.Ytgmbmpojcnmcgaa.Eng
def ofN (n : Nd) (x : Rec) (w k : Int) : Int := if k < 1 ∨ k > 64 ∨ w < 0 ∨ w ≥ k then -1 else if waitsB n.1 = true then modN x.1 k else w
def k_ofN : Sig := .arg (shT tN) fun n => .arg (shT tR) fun x => .arg shI fun w => .arg shI fun k => .done { pre := True, res := I (ofN n x w k) }
theorem of_no {n : Nd} {x : Rec} {w k : Int} (h : k < 1 ∨ k > 64 ∨ w < 0 ∨ w ≥ k) : ofN n x w k = -1 := if_pos h
theorem of_w {n : Nd} {x : Rec} {w k : Int} (h : ¬ (k < 1 ∨ k > 64 ∨ w < 0 ∨ w ≥ k)) (hw : waitsB n.1 = true) : ofN n x w k = modN x.1 k := by unfold ofN; rw [if_neg h, if_pos hw]
theorem of_s {n : Nd} {x : Rec} {w k : Int} (h : ¬ (k < 1 ∨ k > 64 ∨ w < 0 ∨ w ≥ k)) (hw : ¬ waitsB n.1 = true) : ofN n x w k = w := by unfold ofN; rw [if_neg h, if_neg hw]
set_option maxHeartbeats 1000000 in
theorem c_ofN : FnOk Try.prog 21 k_ofN.con := by
  refine fnOkS mixed tys_ok (cs := [(17, k_waits.con), (47, k_mod.con)]) ⟨c_waits, c_mod, trivial⟩ Try.func21 rfl (by kernel_rfl) Try.ntmps21 _ (h := ?_)
  intro n x w k
  refine ⟨rfl, fun hp => ?_⟩
  by_cases hb : k < 1 ∨ k > 64 ∨ w < 0 ∨ w ≥ k
  · conv => whnf
    repeat' ((first
      | with_reducible first | refine ⟨fun h => h, ?_⟩ | refine ⟨pk1, ?_⟩ | refine ⟨pk2, ?_⟩ | refine ⟨pk3, ?_⟩ | refine ⟨pk4, ?_⟩ | refine ⟨pk5, ?_⟩ | refine ⟨pk6, ?_⟩ | refine ⟨trivial, ?_⟩ | refine ⟨fun _ => trivial, ?_⟩ | refine ⟨rfl, ?_⟩ | refine every_i (fun hd => ?_) | refine everyN_i (fun k hk => ?_) | refine everyD_i (fun d hd => ?_) | refine fork_t (by assumption) ?_ | refine fork_f (by assumption) ?_
      | refine fork_t rfl ?_
      | refine fork_f rfl ?_
      | with_reducible first | refine fork_i (fun h => ?_) (fun h => ?_) | refine both_i ?_ ?_
      | ((with_reducible refine alike_i ?_); exact ⟨rfl, rfl, rfl⟩)
      | ((with_reducible refine fin_i ?_); (conv => whnf); refine ⟨rfl, ?_⟩)
      | ((refine ⟨?_, ?_⟩); (focus (exfalso; simp at *; omega)))
      | refine ⟨of_decide_eq_true rfl, ?_⟩
      | refine ⟨fun _ => of_decide_eq_true rfl, ?_⟩
      | ((with_reducible refine ⟨?_, ?_⟩); (focus (intros; simp_all; done)))
      | ((with_reducible refine ⟨?_, ?_⟩); (focus (intros; omega)))) <;> (try (conv => whnf)))
    all_goals (try (exfalso; simp at *; omega))
    all_goals ((with_reducible refine leaf_i ?_); (conv => whnf))
    repeat' ((with_reducible refine And.intro ?_ ?_) <;> (try (conv => whnf)))
    all_goals (try (first | with_reducible rfl | exact True.intro | rfl | exact id | exact fun h => h | exact fun _ => rfl))
    all_goals (try (exact (of_no hb).symm))
    all_goals (try (exfalso; simp at *; omega))
    all_goals trace_state
  · have hk : 0 < k ∧ k ≤ 4611686018427387904 := by omega
    conv => whnf
    repeat' ((first
      | with_reducible first | refine ⟨fun h => h, ?_⟩ | refine ⟨pk1, ?_⟩ | refine ⟨pk2, ?_⟩ | refine ⟨pk3, ?_⟩ | refine ⟨pk4, ?_⟩ | refine ⟨pk5, ?_⟩ | refine ⟨pk6, ?_⟩ | refine ⟨trivial, ?_⟩ | refine ⟨fun _ => trivial, ?_⟩ | refine ⟨rfl, ?_⟩ | refine every_i (fun hd => ?_) | refine everyN_i (fun k hk => ?_) | refine everyD_i (fun d hd => ?_) | refine fork_t (by assumption) ?_ | refine fork_f (by assumption) ?_
      | refine fork_t rfl ?_
      | refine fork_f rfl ?_
      | with_reducible first | refine fork_i (fun h => ?_) (fun h => ?_) | refine both_i ?_ ?_
      | ((with_reducible refine alike_i ?_); exact ⟨rfl, rfl, rfl⟩)
      | ((with_reducible refine fin_i ?_); (conv => whnf); refine ⟨rfl, ?_⟩)
      | refine ⟨hk, ?_⟩
      | refine ⟨of_decide_eq_true rfl, ?_⟩
      | refine ⟨fun _ => of_decide_eq_true rfl, ?_⟩
      | ((with_reducible refine ⟨?_, ?_⟩); (focus (intros; simp_all; done)))
      | ((with_reducible refine ⟨?_, ?_⟩); (focus (intros; omega)))) <;> (try (conv => whnf)))
    all_goals ((with_reducible refine leaf_i ?_); (conv => whnf))
    repeat' ((with_reducible refine And.intro ?_ ?_) <;> (try (conv => whnf)))
    all_goals (try (first | with_reducible rfl | exact True.intro | rfl | exact id | exact fun h => h | exact fun _ => rfl))
    all_goals (try (exfalso; simp at *; omega))
    all_goals (first | exact (of_w hb (by assumption)).symm | (exact (of_s hb (by simp_all)).symm) | trace_state)
set_option maxHeartbeats 1000000 in
theorem c_ofN' : FnOk Try.prog 22 k_ofN.con := by
  refine fnOkS mixed tys_ok (cs := [(18, k_waits.con), (48, k_mod.con)]) ⟨c_waits', c_mod', trivial⟩ Try.func22 rfl (by kernel_rfl) Try.ntmps22 _ (h := ?_)
  intro n x w k
  refine ⟨rfl, fun hp => ?_⟩
  by_cases hb : k < 1 ∨ k > 64 ∨ w < 0 ∨ w ≥ k
  · conv => whnf
    repeat' ((first
      | with_reducible first | refine ⟨fun h => h, ?_⟩ | refine ⟨pk1, ?_⟩ | refine ⟨pk2, ?_⟩ | refine ⟨pk3, ?_⟩ | refine ⟨pk4, ?_⟩ | refine ⟨pk5, ?_⟩ | refine ⟨pk6, ?_⟩ | refine ⟨trivial, ?_⟩ | refine ⟨fun _ => trivial, ?_⟩ | refine ⟨rfl, ?_⟩ | refine every_i (fun hd => ?_) | refine everyN_i (fun k hk => ?_) | refine everyD_i (fun d hd => ?_) | refine fork_t (by assumption) ?_ | refine fork_f (by assumption) ?_
      | refine fork_t rfl ?_
      | refine fork_f rfl ?_
      | with_reducible first | refine fork_i (fun h => ?_) (fun h => ?_) | refine both_i ?_ ?_
      | ((with_reducible refine alike_i ?_); exact ⟨rfl, rfl, rfl⟩)
      | ((with_reducible refine fin_i ?_); (conv => whnf); refine ⟨rfl, ?_⟩)
      | ((refine ⟨?_, ?_⟩); (focus (exfalso; simp at *; omega)))
      | refine ⟨of_decide_eq_true rfl, ?_⟩
      | refine ⟨fun _ => of_decide_eq_true rfl, ?_⟩
      | ((with_reducible refine ⟨?_, ?_⟩); (focus (intros; simp_all; done)))
      | ((with_reducible refine ⟨?_, ?_⟩); (focus (intros; omega)))) <;> (try (conv => whnf)))
    all_goals (try (exfalso; simp at *; omega))
    all_goals ((with_reducible refine leaf_i ?_); (conv => whnf))
    repeat' ((with_reducible refine And.intro ?_ ?_) <;> (try (conv => whnf)))
    all_goals (try (first | with_reducible rfl | exact True.intro | rfl | exact id | exact fun h => h | exact fun _ => rfl))
    all_goals (try (exact (of_no hb).symm))
    all_goals (try (exfalso; simp at *; omega))
    all_goals trace_state
  · have hk : 0 < k ∧ k ≤ 4611686018427387904 := by omega
    conv => whnf
    repeat' ((first
      | with_reducible first | refine ⟨fun h => h, ?_⟩ | refine ⟨pk1, ?_⟩ | refine ⟨pk2, ?_⟩ | refine ⟨pk3, ?_⟩ | refine ⟨pk4, ?_⟩ | refine ⟨pk5, ?_⟩ | refine ⟨pk6, ?_⟩ | refine ⟨trivial, ?_⟩ | refine ⟨fun _ => trivial, ?_⟩ | refine ⟨rfl, ?_⟩ | refine every_i (fun hd => ?_) | refine everyN_i (fun k hk => ?_) | refine everyD_i (fun d hd => ?_) | refine fork_t (by assumption) ?_ | refine fork_f (by assumption) ?_
      | refine fork_t rfl ?_
      | refine fork_f rfl ?_
      | with_reducible first | refine fork_i (fun h => ?_) (fun h => ?_) | refine both_i ?_ ?_
      | ((with_reducible refine alike_i ?_); exact ⟨rfl, rfl, rfl⟩)
      | ((with_reducible refine fin_i ?_); (conv => whnf); refine ⟨rfl, ?_⟩)
      | refine ⟨hk, ?_⟩
      | refine ⟨of_decide_eq_true rfl, ?_⟩
      | refine ⟨fun _ => of_decide_eq_true rfl, ?_⟩
      | ((with_reducible refine ⟨?_, ?_⟩); (focus (intros; simp_all; done)))
      | ((with_reducible refine ⟨?_, ?_⟩); (focus (intros; omega)))) <;> (try (conv => whnf)))
    all_goals ((with_reducible refine leaf_i ?_); (conv => whnf))
    repeat' ((with_reducible refine And.intro ?_ ?_) <;> (try (conv => whnf)))
    all_goals (try (first | with_reducible rfl | exact True.intro | rfl | exact id | exact fun h => h | exact fun _ => rfl))
    all_goals (try (exfalso; simp at *; omega))
    all_goals (first | exact (of_w hb (by assumption)).symm | (exact (of_s hb (by simp_all)).symm) | trace_state)
end Go.Proofs.Ytgmbmpojcnmcgaa

/- Layer 13: what the statements use: few, r, works. -/
namespace Go.Proofs.Ytgmbmpojcnmcgaa
set_option maxRecDepth 100000
open Go Go.RowKit Go.Sort Go.Proofs.Ytgmbmpojcnmcgaa.Eng
def fewB13 (l : List (El tRR)) : Bool := decide ((l.length : Int) ≤ 4) && l.all fun x => decide ((x.1.length : Int) ≤ 60)
def k_few : Sig := .arg (shR tRR) fun l => .done { pre := True, res := B (fewB13 l) }
theorem c_few : FnOk Try.prog 12 k_few.con := by
  refine fnOkS mixed tys_ok (cs := []) trivial Try.func12 rfl (by kernel_rfl) Try.ntmps12 _ (h := ?_)
  intro l
  refine ⟨rfl, fun _ => ?_⟩
  conv => whnf
  repeat' ((first
    | with_reducible first | refine ⟨fun h => h, ?_⟩ | refine ⟨pk1, ?_⟩ | refine ⟨pk2, ?_⟩ | refine ⟨pk3, ?_⟩ | refine ⟨pk4, ?_⟩ | refine ⟨pk5, ?_⟩ | refine ⟨pk6, ?_⟩ | refine ⟨trivial, ?_⟩ | refine ⟨fun _ => trivial, ?_⟩ | refine ⟨rfl, ?_⟩ | refine every_i (fun hd => ?_) | refine everyN_i (fun k hk => ?_) | refine everyD_i (fun d hd => ?_) | refine fork_t (by assumption) ?_ | refine fork_f (by assumption) ?_
    | refine fork_t rfl ?_
    | refine fork_f rfl ?_
    | with_reducible first | refine fork_i (fun h => ?_) (fun h => ?_) | refine both_i ?_ ?_
    | ((with_reducible refine alike_i ?_); exact ⟨rfl, rfl, rfl⟩)
    | ((with_reducible refine fin_i ?_); (conv => whnf); refine ⟨rfl, ?_⟩)
    | refine ⟨of_decide_eq_true rfl, ?_⟩
    | refine ⟨fun _ => of_decide_eq_true rfl, ?_⟩
    | ((with_reducible refine ⟨?_, ?_⟩); (focus (intros; simp_all; done)))
    | ((with_reducible refine ⟨?_, ?_⟩); (focus (intros; omega)))) <;> (try (conv => whnf)))
  · have h := of_decide_eq_true h
    have hn : fewB13 l = false := by unfold fewB13; rw [decide_eq_false (by omega)]; rfl
    all_goals ((with_reducible refine leaf_i ?_); (conv => whnf))
    repeat' ((with_reducible refine And.intro ?_ ?_) <;> (try (conv => whnf)))
    all_goals (try (first | with_reducible rfl | exact True.intro | rfl | exact id | exact fun h => h | exact fun _ => rfl))
    all_goals (rw [hn])
  · have h := of_decide_eq_false h
    have hn : fewB13 l = l.all fun x => decide ((x.1.length : Int) ≤ 60) := by unfold fewB13; rw [decide_eq_true (by omega), Bool.true_and]
    refine looped (σ := Nat) (fun j => [(3, I j)]) (fun _ => []) (fun j => j ≤ l.length ∧ ((l.drop j).all fun x => decide ((x.1.length : Int) ≤ 60)) = fewB13 l) (fun j => l.length - j) 0 ⟨Nat.zero_le _, hn.symm⟩ ?_ ?_
    · conv => whnf
      refine ⟨rfl, leaf_i ?_⟩
      repeat' ((with_reducible refine And.intro ?_ ?_) <;> (try (conv => whnf)))
      all_goals (try (first | with_reducible rfl | exact True.intro | rfl | exact id | exact fun h => h | exact fun _ => rfl))
    · rintro j ⟨hj, hl⟩
      dsimp only at hj hl ⊢
      conv => whnf
      repeat' ((first
        | with_reducible first | refine ⟨fun h => h, ?_⟩ | refine ⟨pk1, ?_⟩ | refine ⟨pk2, ?_⟩ | refine ⟨pk3, ?_⟩ | refine ⟨pk4, ?_⟩ | refine ⟨pk5, ?_⟩ | refine ⟨pk6, ?_⟩ | refine ⟨trivial, ?_⟩ | refine ⟨fun _ => trivial, ?_⟩ | refine ⟨rfl, ?_⟩ | refine every_i (fun hd => ?_) | refine everyN_i (fun k hk => ?_) | refine everyD_i (fun d hd => ?_) | refine fork_t (by assumption) ?_ | refine fork_f (by assumption) ?_
        | refine fork_t rfl ?_
        | refine fork_f rfl ?_
        | with_reducible first | refine fork_i (fun h => ?_) (fun h => ?_) | refine both_i ?_ ?_
        | ((with_reducible refine alike_i ?_); exact ⟨rfl, rfl, rfl⟩)
        | ((with_reducible refine fin_i ?_); (conv => whnf); refine ⟨rfl, ?_⟩)
        | refine ⟨of_decide_eq_true rfl, ?_⟩
        | refine ⟨fun _ => of_decide_eq_true rfl, ?_⟩
        | ((with_reducible refine ⟨?_, ?_⟩); (focus (intros; simp_all; done)))
        | ((with_reducible refine ⟨?_, ?_⟩); (focus (intros; omega)))) <;> (try (conv => whnf)))
      · have hj' : j < l.length := lt_t (by assumption)
        have hx : ¬ ((getE tRR l j).1.length : Int) ≤ 60 := fun hh => by have hh2 := of_decide_eq_true h; have hh2 : ((getE tRR l j).1.length : Int) > 60 := hh2; omega
        rw [drop_get l hj', List.all_cons, decide_eq_false hx, Bool.false_and] at hl
        all_goals ((with_reducible refine leaf_i ?_); (conv => whnf))
        repeat' ((with_reducible refine And.intro ?_ ?_) <;> (try (conv => whnf)))
        all_goals (try (first | with_reducible rfl | exact True.intro | rfl | exact id | exact fun h => h | exact fun _ => rfl))
        all_goals (rw [← hl])
      · have hj' : j < l.length := lt_t (by assumption)
        have hx : ((getE tRR l j).1.length : Int) ≤ 60 := by have hh2 := of_decide_eq_false h; have hh2 : ¬ ((getE tRR l j).1.length : Int) > 60 := hh2; omega
        rw [drop_get l hj', List.all_cons, decide_eq_true hx, Bool.true_and] at hl
        refine next_i (j + 1) ⟨hj', hl⟩ (by omega) rfl rfl ?_
        conv => whnf
        refine ⟨rfl, leaf_i ?_⟩
        repeat' ((with_reducible refine And.intro ?_ ?_) <;> (try (conv => whnf)))
        all_goals (try (first | with_reducible rfl | exact True.intro | rfl | exact id | exact fun h => h | exact fun _ => rfl))
        all_goals exact wrapS (by omega)
      · have hj' : l.length ≤ j := lt_f (by assumption)
        rw [List.drop_eq_nil_of_le hj', List.all_nil] at hl
        all_goals ((with_reducible refine leaf_i ?_); (conv => whnf))
        repeat' ((with_reducible refine And.intro ?_ ?_) <;> (try (conv => whnf)))
        all_goals (try (first | with_reducible rfl | exact True.intro | rfl | exact id | exact fun h => h | exact fun _ => rfl))
        all_goals (rw [← hl])
def k_r : Sig := .arg shI fun k => .arg shI fun v => .done { pre := True, res := pRec (k, v, ()) }
theorem c_r : FnOk Try.prog 28 k_r.con := by
  refine fnOkS mixed tys_ok (cs := []) trivial Try.func28 rfl (by kernel_rfl) Try.ntmps28 _ (h := ?_)
  intro k v
  refine ⟨rfl, fun _ => ?_⟩
  conv => whnf
  repeat' ((first
    | with_reducible first | refine ⟨fun h => h, ?_⟩ | refine ⟨pk1, ?_⟩ | refine ⟨pk2, ?_⟩ | refine ⟨pk3, ?_⟩ | refine ⟨pk4, ?_⟩ | refine ⟨pk5, ?_⟩ | refine ⟨pk6, ?_⟩ | refine ⟨trivial, ?_⟩ | refine ⟨fun _ => trivial, ?_⟩ | refine ⟨rfl, ?_⟩ | refine every_i (fun hd => ?_) | refine everyN_i (fun k hk => ?_) | refine everyD_i (fun d hd => ?_) | refine fork_t (by assumption) ?_ | refine fork_f (by assumption) ?_
    | refine fork_t rfl ?_
    | refine fork_f rfl ?_
    | with_reducible first | refine fork_i (fun h => ?_) (fun h => ?_) | refine both_i ?_ ?_
    | ((with_reducible refine alike_i ?_); exact ⟨rfl, rfl, rfl⟩)
    | ((with_reducible refine fin_i ?_); (conv => whnf); refine ⟨rfl, ?_⟩)
    | refine ⟨of_decide_eq_true rfl, ?_⟩
    | refine ⟨fun _ => of_decide_eq_true rfl, ?_⟩
    | ((with_reducible refine ⟨?_, ?_⟩); (focus (intros; simp_all; done)))
    | ((with_reducible refine ⟨?_, ?_⟩); (focus (intros; omega)))) <;> (try (conv => whnf)))
  all_goals ((with_reducible refine leaf_i ?_); (conv => whnf))
  repeat' ((with_reducible refine And.intro ?_ ?_) <;> (try (conv => whnf)))
  all_goals (try (first | with_reducible rfl | exact True.intro | rfl | exact id | exact fun h => h | exact fun _ => rfl))
def runPreB (n : Nd) (l : List (El tRR)) : Bool := decide (l.length ≤ 1000) && l.all (fun x => decide (x.1.length ≤ 30000)) && (decide (0 ≤ n.2.1) && decide (n.2.2.1 ≤ 9223372036854775807))
theorem runPre_of {n : Nd} {l : List (El tRR)} (h : runPreB n l = true) : runPre n l := by
  simp only [runPreB, Bool.and_eq_true, decide_eq_true_eq, List.all_eq_true] at h
  exact ⟨h.1, h.2⟩
theorem run_1 : runN (2, 3, 4, 0, [], ()) [([(9, -3, ())], ())] = ([(1, -3, ())], 0) := by
  rw [run_ok' rfl rfl]
  exact congrArg (fun x => (x, 0)) (srtR_of (l := [(1, -3, ())]) (List.Perm.refl _) (by simp))
theorem run_2 : runN (5, 0, 0, 0, [], ()) [([(1, 2, ()), (2, 7, ()), (1, 3, ())], ())] = ([(1, 5, ()), (2, 7, ())], 0) := by
  rw [run_ok' rfl rfl]
  exact congrArg (fun x => (x, 0)) (srtR_of (l := [(1, 5, ()), (2, 7, ())]) (List.Perm.refl _) (by simp [leR_iff]))
theorem run_3 : runN (6, 0, 0, 0, [], ()) [([(1, 2, ()), (1, 3, ()), (2, 9, ())], ()), ([(1, 10, ())], ())] = ([(1, 12, ()), (1, 13, ())], 0) := by
  rw [run_ok' rfl rfl]
  exact congrArg (fun x => (x, 0)) (srtR_of (l := [(1, 12, ()), (1, 13, ())]) (List.Perm.refl _) (by simp [leR_iff]))
theorem time_1 : timeN (9, 0, 2, 0, [], ()) ⟨1, 4, 0, 0, 0⟩ = (⟨1, 4, 1, 0, 0⟩, true) := by kernel_rfl
theorem time_2 : timeN (9, 0, 2, 0, [], ()) ⟨1, 4, 1, 0, 0⟩ = (St.zero, false) := by kernel_rfl
theorem of_1 : ofN (5, 0, 0, 0, [], ()) (-3, 0, ()) 1 4 = 1 := by decide +kernel
theorem of_2 : ofN (2, 0, 0, 0, [], ()) (-3, 0, ()) 1 4 = 1 := by decide +kernel
attribute [local irreducible] runN timeN ofN
theorem and_t {a b : Bool} (ha : a = true) (hb : b = true) : (bif a then b else false) = true := by rw [ha, hb]; rfl
theorem not_tt {a : Bool} (ha : a = false) : (!a) = true := by rw [ha]; rfl
def k_works : Sig := .done { pre := True, res := B true }
set_option maxHeartbeats 8000000 in
theorem c_works : FnOk Try.prog 13 k_works.con := by
  refine fnOkS mixed tys_ok (cs := [(14, k_run.con), (19, k_time.con), (21, k_ofN.con), (17, k_waits.con), (16, k_same.con), (28, k_r.con)]) ⟨c_run, c_time, c_ofN, c_waits, c_same, c_r, trivial⟩ Try.func13 rfl (by kernel_rfl) Try.ntmps13 _ (h := ?_)
  refine ⟨rfl, fun _ => ?_⟩
  have g1 : (((runN (2, 3, 4, 0, [], ()) [([(9, -3, ())], ())]).2 == 0) == true) = true := by rw [run_1]; rfl
  have g2 : ((bif (bif ((runN (2, 3, 4, 0, [], ()) [([(9, -3, ())], ())]).2 == 0) then sameR (runN (2, 3, 4, 0, [], ()) [([(9, -3, ())], ())]).1 [(1, -3, ())] else false) then ((runN (5, 0, 0, 0, [], ()) [([(1, 2, ()), (2, 7, ()), (1, 3, ())], ())]).2 == 0) else false) == true) = true := by rw [run_1, run_2]; rfl
  have g3 : ((bif (bif (bif (bif ((runN (2, 3, 4, 0, [], ()) [([(9, -3, ())], ())]).2 == 0) then sameR (runN (2, 3, 4, 0, [], ()) [([(9, -3, ())], ())]).1 [(1, -3, ())] else false) then ((runN (5, 0, 0, 0, [], ()) [([(1, 2, ()), (2, 7, ()), (1, 3, ())], ())]).2 == 0) else false) then sameR (runN (5, 0, 0, 0, [], ()) [([(1, 2, ()), (2, 7, ()), (1, 3, ())], ())]).1 [(1, 5, ()), (2, 7, ())] else false) then ((runN (6, 0, 0, 0, [], ()) [([(1, 2, ()), (1, 3, ()), (2, 9, ())], ()), ([(1, 10, ())], ())]).2 == 0) else false) == true) = true := by rw [run_1, run_2, run_3]; rfl
  have p1 : (runN (2, 3, 4, 0, [], ()) [([(9, -3, ())], ())]).1.length < 4611686018427387904 := by rw [run_1]; decide
  have p2 : (runN (5, 0, 0, 0, [], ()) [([(1, 2, ()), (2, 7, ()), (1, 3, ())], ())]).1.length < 4611686018427387904 := by rw [run_2]; decide
  have p3 : (runN (6, 0, 0, 0, [], ()) [([(1, 2, ()), (1, 3, ()), (2, 9, ())], ()), ([(1, 10, ())], ())]).1.length < 4611686018427387904 := by rw [run_3]; decide
  have hi1 : i64r 1 := by unfold i64r; omega
  have hi2 : i64r (timeN (9, 0, 2, 0, [], ()) ⟨1, 4, 0, 0, 0⟩).1.d := by rw [time_1]; exact hi1
  conv => whnf
  repeat' ((first
    | with_reducible first | refine ⟨fun h => h, ?_⟩ | refine ⟨pk1, ?_⟩ | refine ⟨pk2, ?_⟩ | refine ⟨pk3, ?_⟩ | refine ⟨pk4, ?_⟩ | refine ⟨pk5, ?_⟩ | refine ⟨pk6, ?_⟩ | refine ⟨trivial, ?_⟩ | refine ⟨fun _ => trivial, ?_⟩ | refine ⟨rfl, ?_⟩ | refine every_i (fun hd => ?_) | refine everyN_i (fun k hk => ?_) | refine everyD_i (fun d hd => ?_) | refine fork_t (by assumption) ?_ | refine fork_f (by assumption) ?_
    | refine fork_t rfl ?_
    | refine fork_f rfl ?_
    | with_reducible first | refine fork_i (fun h => ?_) (fun h => ?_) | refine both_i ?_ ?_
    | ((with_reducible refine alike_i ?_); exact ⟨rfl, rfl, rfl⟩)
    | ((with_reducible refine fin_i ?_); (conv => whnf); refine ⟨rfl, ?_⟩)
    | refine ⟨runPre_of rfl, ?_⟩
    | refine ⟨hi1, ?_⟩
    | refine ⟨hi2, ?_⟩
    | refine ⟨g1, ?_⟩
    | refine ⟨g2, ?_⟩
    | refine ⟨g3, ?_⟩
    | refine ⟨fun _ => p1, ?_⟩
    | refine ⟨fun _ => p2, ?_⟩
    | refine ⟨fun _ => p3, ?_⟩
    | refine ⟨of_decide_eq_true rfl, ?_⟩
    | refine ⟨fun _ => of_decide_eq_true rfl, ?_⟩
    | ((with_reducible refine ⟨?_, ?_⟩); (focus (intros; simp_all; done)))
    | ((with_reducible refine ⟨?_, ?_⟩); (focus (intros; omega)))) <;> (try (conv => whnf)))
  have k1 : ((runN (2, 3, 4, 0, [], ()) [([(9, -3, ())], ())]).2 == 0) = true := by rw [run_1]; rfl
  have k2 : sameR (runN (2, 3, 4, 0, [], ()) [([(9, -3, ())], ())]).1 [(1, -3, ())] = true := by rw [run_1]; rfl
  have k3 : ((runN (5, 0, 0, 0, [], ()) [([(1, 2, ()), (2, 7, ()), (1, 3, ())], ())]).2 == 0) = true := by rw [run_2]; rfl
  have k4 : sameR (runN (5, 0, 0, 0, [], ()) [([(1, 2, ()), (2, 7, ()), (1, 3, ())], ())]).1 [(1, 5, ()), (2, 7, ())] = true := by rw [run_2]; rfl
  have k5 : ((runN (6, 0, 0, 0, [], ()) [([(1, 2, ()), (1, 3, ()), (2, 9, ())], ()), ([(1, 10, ())], ())]).2 == 0) = true := by rw [run_3]; rfl
  have k6 : sameR (runN (6, 0, 0, 0, [], ()) [([(1, 2, ()), (1, 3, ()), (2, 9, ())], ()), ([(1, 10, ())], ())]).1 [(1, 12, ()), (1, 13, ())] = true := by rw [run_3]; rfl
  have k7 : (ofN (5, 0, 0, 0, [], ()) (-3, 0, ()) 1 4 == 1) = true := by rw [of_1]; rfl
  have k8 : (ofN (2, 0, 0, 0, [], ()) (-3, 0, ()) 1 4 == 1) = true := by rw [of_2]; rfl
  have k9 : (timeN (9, 0, 2, 0, [], ()) ⟨1, 4, 0, 0, 0⟩).2 = true := by rw [time_1]
  have k10 : ((timeN (9, 0, 2, 0, [], ()) ⟨1, 4, 0, 0, 0⟩).1.a == 1) = true := by rw [time_1]; rfl
  have k11 : (timeN (9, 0, 2, 0, [], ()) ⟨(timeN (9, 0, 2, 0, [], ()) ⟨1, 4, 0, 0, 0⟩).1.d, (timeN (9, 0, 2, 0, [], ()) ⟨1, 4, 0, 0, 0⟩).1.e, (timeN (9, 0, 2, 0, [], ()) ⟨1, 4, 0, 0, 0⟩).1.a, (timeN (9, 0, 2, 0, [], ()) ⟨1, 4, 0, 0, 0⟩).1.b, (timeN (9, 0, 2, 0, [], ()) ⟨1, 4, 0, 0, 0⟩).1.c⟩).2 = false := by rw [time_1]; dsimp only; rw [time_2]
  all_goals ((with_reducible refine leaf_i ?_); (conv => whnf))
  repeat' ((with_reducible refine And.intro ?_ ?_) <;> (try (conv => whnf)))
  all_goals (try (first | with_reducible rfl | exact True.intro | rfl | exact id | exact fun h => h | exact fun _ => rfl))
  repeat' refine and_t ?_ ?_
  all_goals (first | exact k1 | exact k2 | exact k3 | exact k4 | exact k5 | exact k6 | exact k7 | exact k8 | exact k9 | exact k10 | exact not_tt k11 | rfl | trace_state)
end Go.Proofs.Ytgmbmpojcnmcgaa

/- Layer 13: the statements OpersTime and OpersOf. -/
namespace Go.Proofs.Ytgmbmpojcnmcgaa
set_option maxRecDepth 100000
open Go Go.RowKit Go.Sort Go.Proofs.Ytgmbmpojcnmcgaa.Eng
abbrev tT : Ty := .int .i64 (.int .i64 (.int .i64 (.int .i64 (.int .i64 .nil))))
def k_ltime : Sig := .arg (shT tN) fun n => .arg shSt fun t => .done { pre := i64r t.d, res := B true }
attribute [local irreducible] timeN ofN
set_option maxHeartbeats 4000000 in
theorem c_ltime : FnOk Try.prog 4 k_ltime.con := by
  refine fnOkS mixed tys_ok (cs := [(19, k_time.con), (20, k_time.con), (13, k_works.con)]) ⟨c_time, c_time', c_works, trivial⟩ Try.func4 rfl (by kernel_rfl) Try.ntmps4 _ (h := ?_)
  rintro n ⟨d, e, x, y, z⟩
  refine ⟨rfl, fun hp => ?_⟩
  have hp : i64r d := hp
  conv => whnf
  repeat' ((first
    | with_reducible first | refine ⟨fun h => h, ?_⟩ | refine ⟨pk1, ?_⟩ | refine ⟨pk2, ?_⟩ | refine ⟨pk3, ?_⟩ | refine ⟨pk4, ?_⟩ | refine ⟨pk5, ?_⟩ | refine ⟨pk6, ?_⟩ | refine ⟨trivial, ?_⟩ | refine ⟨fun _ => trivial, ?_⟩ | refine ⟨rfl, ?_⟩ | refine every_i (fun hd => ?_) | refine everyN_i (fun k hk => ?_) | refine everyD_i (fun d hd => ?_) | refine fork_t (by assumption) ?_ | refine fork_f (by assumption) ?_
    | refine fork_t rfl ?_
    | refine fork_f rfl ?_
    | with_reducible first | refine fork_i (fun h => ?_) (fun h => ?_) | refine both_i ?_ ?_
    | ((with_reducible refine alike_i ?_); exact ⟨rfl, rfl, rfl⟩)
    | ((with_reducible refine fin_i ?_); (conv => whnf); refine ⟨rfl, ?_⟩)
    | refine ⟨hp, ?_⟩
    | refine ⟨of_decide_eq_true rfl, ?_⟩
    | refine ⟨fun _ => of_decide_eq_true rfl, ?_⟩
    | ((with_reducible refine ⟨?_, ?_⟩); (focus (intros; simp_all; done)))
    | ((with_reducible refine ⟨?_, ?_⟩); (focus (intros; omega)))) <;> (try (conv => whnf)))
  all_goals ((with_reducible refine leaf_i ?_); (conv => whnf))
  repeat' ((with_reducible refine And.intro ?_ ?_) <;> (try (conv => whnf)))
  all_goals (try (first | with_reducible rfl | exact True.intro | rfl | exact id | exact fun h => h | exact fun _ => rfl))
  all_goals (first | (simp; done) | trace_state)
def k_lof : Sig := .arg (shT tN) fun n => .arg (shT tR) fun x => .arg shI fun w => .arg shI fun k => .done { pre := True, res := B true }
set_option maxHeartbeats 4000000 in
theorem c_lof : FnOk Try.prog 5 k_lof.con := by
  refine fnOkS mixed tys_ok (cs := [(21, k_ofN.con), (22, k_ofN.con), (13, k_works.con)]) ⟨c_ofN, c_ofN', c_works, trivial⟩ Try.func5 rfl (by kernel_rfl) Try.ntmps5 _ (h := ?_)
  intro n x w k
  refine ⟨rfl, fun hp => ?_⟩
  conv => whnf
  repeat' ((first
    | with_reducible first | refine ⟨fun h => h, ?_⟩ | refine ⟨pk1, ?_⟩ | refine ⟨pk2, ?_⟩ | refine ⟨pk3, ?_⟩ | refine ⟨pk4, ?_⟩ | refine ⟨pk5, ?_⟩ | refine ⟨pk6, ?_⟩ | refine ⟨trivial, ?_⟩ | refine ⟨fun _ => trivial, ?_⟩ | refine ⟨rfl, ?_⟩ | refine every_i (fun hd => ?_) | refine everyN_i (fun k hk => ?_) | refine everyD_i (fun d hd => ?_) | refine fork_t (by assumption) ?_ | refine fork_f (by assumption) ?_
    | refine fork_t rfl ?_
    | refine fork_f rfl ?_
    | with_reducible first | refine fork_i (fun h => ?_) (fun h => ?_) | refine both_i ?_ ?_
    | ((with_reducible refine alike_i ?_); exact ⟨rfl, rfl, rfl⟩)
    | ((with_reducible refine fin_i ?_); (conv => whnf); refine ⟨rfl, ?_⟩)
    | refine ⟨of_decide_eq_true rfl, ?_⟩
    | refine ⟨fun _ => of_decide_eq_true rfl, ?_⟩
    | ((with_reducible refine ⟨?_, ?_⟩); (focus (intros; simp_all; done)))
    | ((with_reducible refine ⟨?_, ?_⟩); (focus (intros; omega)))) <;> (try (conv => whnf)))
  all_goals ((with_reducible refine leaf_i ?_); (conv => whnf))
  repeat' ((with_reducible refine And.intro ?_ ?_) <;> (try (conv => whnf)))
  all_goals (try (first | with_reducible rfl | exact True.intro | rfl | exact id | exact fun h => h | exact fun _ => rfl))
  all_goals (first | (simp; done) | trace_state)
end Go.Proofs.Ytgmbmpojcnmcgaa

/- Layer 13: the statement OpersRun. -/
namespace Go.Proofs.Ytgmbmpojcnmcgaa
set_option maxRecDepth 100000
open Go Go.RowKit Go.Sort Go.Proofs.Ytgmbmpojcnmcgaa.Eng
theorem few_of {l : List (El tRR)} (h : fewB13 l = true) : l.length ≤ 4 ∧ ∀ x : El tRR, x ∈ l → x.1.length ≤ 60 := by
  unfold fewB13 at h
  rw [Bool.and_eq_true] at h
  refine ⟨by have := of_decide_eq_true h.1; omega, fun x hx => ?_⟩
  have := of_decide_eq_true (List.all_eq_true.1 h.2 x hx)
  omega
theorem same_refl (l : List Rec) : sameR l l = true := (sameR_iff l l).2 rfl
theorem runN_len {n : Nd} {l : List (El tRR)} (h : l.length ≤ 10) (h2 : ∀ x : El tRR, x ∈ l → x.1.length ≤ 3000) : (runN n l).1.length ≤ 1000000000 := by
  by_cases h0 : numB n = true
  · by_cases hl : (l.length : Int) = arityN n.1
    · rw [run_ok' h0 hl, ← make_same hl]
      dsimp only
      rw [srtR_len]
      have := rmake_len (n := n) (c := 3000) h2 (by decide) l.length
      have : l.length * (3000 * 3000) ≤ 10 * (3000 * 3000) := Nat.mul_le_mul_right _ h
      omega
    · rw [run_len h0 hl]; exact Nat.zero_le _
  · rw [run_bad (by simpa using h0)]; exact Nat.zero_le _
def lawPre (n : Nd) (l : List (El tRR)) : Prop := inRR l ∧ 0 ≤ n.2.1 ∧ n.2.2.1 ≤ 9223372036854775807
theorem node_rng {n : Nd} (h : okT tN n) : 0 ≤ n.2.1 ∧ n.2.2.1 ≤ 9223372036854775807 := ⟨h.2.1.1, h.2.2.1.2⟩
theorem in_of {l : List Rec} (h : ∀ y : El tR, y ∈ l → okT tR y) : inR l := fun r hr => (h r hr).2.1
theorem lawPre_of {n : Nd} {l : List (El tRR)} (h : okT tN n) (h2 : ∀ y : El tRR, y ∈ l → okT tRR y) : lawPre n l := ⟨fun x hx => in_of (h2 x hx).2.1, node_rng h⟩
def k_lrun : Sig := .arg (shT tN) fun n => .arg (shR tRR) fun l => .done { pre := lawPre n l, res := B true }
attribute [local irreducible] runN waitsB
set_option maxHeartbeats 8000000 in
theorem c_lrun : FnOk Try.prog 3 k_lrun.con := by
  refine fnOkS mixed tys_ok (cs := [(12, k_few.con), (14, k_run.con), (15, k_rrun.con), (16, k_same.con), (17, k_waits.con), (18, k_waits.con), (13, k_works.con)]) ⟨c_few, c_run, c_rrun, c_same, c_waits, c_waits', c_works, trivial⟩ Try.func3 rfl (by kernel_rfl) Try.ntmps3 _ (h := ?_)
  intro n l
  refine ⟨rfl, fun hp => ?_⟩
  obtain ⟨hir, ha, hb⟩ := hp
  conv => whnf
  repeat' ((first
    | with_reducible first | refine ⟨fun h => h, ?_⟩ | refine ⟨pk1, ?_⟩ | refine ⟨pk2, ?_⟩ | refine ⟨pk3, ?_⟩ | refine ⟨pk4, ?_⟩ | refine ⟨pk5, ?_⟩ | refine ⟨pk6, ?_⟩ | refine ⟨trivial, ?_⟩ | refine ⟨fun _ => trivial, ?_⟩ | refine ⟨rfl, ?_⟩ | refine every_i (fun hd => ?_) | refine everyN_i (fun k hk => ?_) | refine everyD_i (fun d hd => ?_) | refine fork_t (by assumption) ?_ | refine fork_f (by assumption) ?_
    | refine fork_t rfl ?_
    | refine fork_f rfl ?_
    | with_reducible first | refine fork_i (fun h => ?_) (fun h => ?_) | refine both_i ?_ ?_
    | ((with_reducible refine alike_i ?_); exact ⟨rfl, rfl, rfl⟩)
    | ((with_reducible refine fin_i ?_); (conv => whnf); refine ⟨rfl, ?_⟩)
    | refine ⟨of_decide_eq_true rfl, ?_⟩
    | refine ⟨fun _ => of_decide_eq_true rfl, ?_⟩
    | ((with_reducible refine ⟨?_, ?_⟩); (focus (intros; simp_all; done)))
    | ((with_reducible refine ⟨?_, ?_⟩); (focus (intros; omega)))) <;> (try (conv => whnf)))
  · all_goals ((with_reducible refine leaf_i ?_); (conv => whnf))
    repeat' ((with_reducible refine And.intro ?_ ?_) <;> (try (conv => whnf)))
    all_goals (try (first | with_reducible rfl | exact True.intro | rfl | exact id | exact fun h => h | exact fun _ => rfl))
  · have hf : fewB13 l = true := not_f (by assumption)
    obtain ⟨hl, hx⟩ := few_of hf
    have hrp : runPre n l := ⟨⟨by omega, fun x h => Nat.le_trans (hx x h) (by decide)⟩, ha, hb⟩
    have hrr : rrunPre n l := ⟨⟨by omega, fun x h => Nat.le_trans (hx x h) (by decide)⟩, hir, ha, hb⟩
    have hlr := runN_len (n := n) (l := l) (by omega) (fun x h => Nat.le_trans (hx x h) (by decide))
    refine looped (σ := Nat × List (El tRR)) (fun x => [(6, I x.1), (5, .ow 1 1 x.2.length)]) (fun x => [.cells (ndC false n), .row true tRR 28 x.2]) (fun x => x.1 ≤ l.length ∧ x.2 = l.take x.1) (fun x => l.length - x.1) (0, []) ⟨Nat.zero_le _, rfl⟩ ?_ ?_
    · conv => whnf
      refine ⟨rfl, leaf_i ?_⟩
      repeat' ((with_reducible refine And.intro ?_ ?_) <;> (try (conv => whnf)))
      all_goals (try (first | with_reducible rfl | exact True.intro | rfl | exact id | exact fun h => h | exact fun _ => rfl))
    · rintro ⟨j, o⟩ ⟨hj, ho⟩
      dsimp only at hj ho ⊢
      have hol : o.length = j := by rw [ho, List.length_take]; omega
      have hjb : decide ((j : Int) < (l.length : Int)) = true → 0 ≤ (j : Int) ∧ (j : Int) < (l.length : Int) := fun h => by have := lt_t' h; omega
      have hge : (getE tRR l (j : Int).toNat).1.length ≤ 1000000000 := Nat.le_trans (get_few hx j) (by decide)
      conv => whnf
      repeat' ((first
        | with_reducible first | refine ⟨fun h => h, ?_⟩ | refine ⟨pk1, ?_⟩ | refine ⟨pk2, ?_⟩ | refine ⟨pk3, ?_⟩ | refine ⟨pk4, ?_⟩ | refine ⟨pk5, ?_⟩ | refine ⟨pk6, ?_⟩ | refine ⟨trivial, ?_⟩ | refine ⟨fun _ => trivial, ?_⟩ | refine ⟨rfl, ?_⟩ | refine every_i (fun hd => ?_) | refine everyN_i (fun k hk => ?_) | refine everyD_i (fun d hd => ?_) | refine fork_t (by assumption) ?_ | refine fork_f (by assumption) ?_
        | refine fork_t rfl ?_
        | refine fork_f rfl ?_
        | with_reducible first | refine fork_i (fun h => ?_) (fun h => ?_) | refine both_i ?_ ?_
        | ((with_reducible refine alike_i ?_); exact ⟨rfl, rfl, rfl⟩)
        | ((with_reducible refine fin_i ?_); (conv => whnf); refine ⟨rfl, ?_⟩)
        | refine ⟨hjb (by assumption), ?_⟩
        | refine ⟨hge, ?_⟩
        | refine ⟨of_decide_eq_true rfl, ?_⟩
        | refine ⟨fun _ => of_decide_eq_true rfl, ?_⟩
        | ((with_reducible refine ⟨?_, ?_⟩); (focus (intros; simp_all; done)))
        | ((with_reducible refine ⟨?_, ?_⟩); (focus (intros; omega)))) <;> (try (conv => whnf)))
      · have hj' : j < l.length := lt_t' (by assumption)
        refine ⟨by rw [List.length_append, List.length_cons, List.length_nil]; omega, ?_⟩
        (conv => whnf)
        conv => whnf
        repeat' ((first
          | with_reducible first | refine ⟨fun h => h, ?_⟩ | refine ⟨pk1, ?_⟩ | refine ⟨pk2, ?_⟩ | refine ⟨pk3, ?_⟩ | refine ⟨pk4, ?_⟩ | refine ⟨pk5, ?_⟩ | refine ⟨pk6, ?_⟩ | refine ⟨trivial, ?_⟩ | refine ⟨fun _ => trivial, ?_⟩ | refine ⟨rfl, ?_⟩ | refine every_i (fun hd => ?_) | refine everyN_i (fun k hk => ?_) | refine everyD_i (fun d hd => ?_) | refine fork_t (by assumption) ?_ | refine fork_f (by assumption) ?_
          | refine fork_t rfl ?_
          | refine fork_f rfl ?_
          | with_reducible first | refine fork_i (fun h => ?_) (fun h => ?_) | refine both_i ?_ ?_
          | ((with_reducible refine alike_i ?_); exact ⟨rfl, rfl, rfl⟩)
          | ((with_reducible refine fin_i ?_); (conv => whnf); refine ⟨rfl, ?_⟩)
          | refine ⟨of_decide_eq_true rfl, ?_⟩
          | refine ⟨fun _ => of_decide_eq_true rfl, ?_⟩
          | ((with_reducible refine ⟨?_, ?_⟩); (focus (intros; simp_all; done)))
          | ((with_reducible refine ⟨?_, ?_⟩); (focus (intros; omega)))) <;> (try (conv => whnf)))
        refine next_i (j + 1, o ++ [getE tRR l j]) ⟨hj', by dsimp only; rw [ho]; exact (take_get l hj').symm⟩ (by dsimp only; omega) rfl rfl ?_
        conv => whnf
        refine ⟨rfl, leaf_i ?_⟩
        repeat' ((with_reducible refine And.intro ?_ ?_) <;> (try (conv => whnf)))
        all_goals (try (first | with_reducible rfl | exact True.intro | rfl | exact id | exact fun h => h | exact fun _ => rfl))
        all_goals (first | exact wrapS (by omega) | rfl | trace_state)
      · have hj' : l.length ≤ j := lt_f' (by assumption)
        have e : o = l := by rw [ho, List.take_of_length_le hj']
        subst e
        have hal : (runN n o).1.length < 4611686018427387904 := by omega
        have hno : (bif (bif ((runN n o).2 != (runN n o).2) then true else !sameR (runN n o).1 (runN n o).1) then true else (waitsB n.1 != waitsB n.1)) = false := by rw [same_refl]; simp
        conv => whnf
        repeat' ((first
          | refine fork_f hno ?_
          | with_reducible first | refine ⟨fun h => h, ?_⟩ | refine ⟨pk1, ?_⟩ | refine ⟨pk2, ?_⟩ | refine ⟨pk3, ?_⟩ | refine ⟨pk4, ?_⟩ | refine ⟨pk5, ?_⟩ | refine ⟨pk6, ?_⟩ | refine ⟨trivial, ?_⟩ | refine ⟨fun _ => trivial, ?_⟩ | refine ⟨rfl, ?_⟩ | refine every_i (fun hd => ?_) | refine everyN_i (fun k hk => ?_) | refine everyD_i (fun d hd => ?_) | refine fork_t (by assumption) ?_ | refine fork_f (by assumption) ?_
          | refine fork_t rfl ?_
          | refine fork_f rfl ?_
          | with_reducible first | refine fork_i (fun h => ?_) (fun h => ?_) | refine both_i ?_ ?_
          | ((with_reducible refine alike_i ?_); exact ⟨rfl, rfl, rfl⟩)
          | ((with_reducible refine fin_i ?_); (conv => whnf); refine ⟨rfl, ?_⟩)
          | refine ⟨hrp, ?_⟩
          | refine ⟨hrr, ?_⟩
          | refine ⟨hal, ?_⟩
          | refine ⟨fun _ => hal, ?_⟩
          | refine ⟨of_decide_eq_true rfl, ?_⟩
          | refine ⟨fun _ => of_decide_eq_true rfl, ?_⟩
          | ((with_reducible refine ⟨?_, ?_⟩); (focus (intros; simp_all; done)))
          | ((with_reducible refine ⟨?_, ?_⟩); (focus (intros; omega)))) <;> (try (conv => whnf)))
        generalize hA : (runN n o).1 = A at hal hlr
        refine only [8, 5, 2, 1, 0] ?_
        (conv => whnf)
        refine looped (σ := Nat × List Rec) (fun x => [(12, I x.1)]) (fun x => [.cells (ndC false n), .row true tRR 28 o, .row true tR 36 x.2]) (fun x => x.1 ≤ A.length ∧ x.2.length = A.length) (fun x => A.length - x.1) (0, A) ⟨Nat.zero_le _, rfl⟩ ?_ ?_
        · conv => whnf
          refine ⟨rfl, leaf_i ?_⟩
          repeat' ((with_reducible refine And.intro ?_ ?_) <;> (try (conv => whnf)))
          all_goals (try (first | with_reducible rfl | exact True.intro | rfl | exact id | exact fun h => h | exact fun _ => rfl))
        · rintro ⟨i, m⟩ ⟨hi, hm⟩
          dsimp only at hi hm ⊢
          have hib : decide ((i : Int) < (A.length : Int)) = true → 0 ≤ (i : Int) ∧ (i : Int) < (A.length : Int) := fun h => by have := lt_t' h; omega
          conv => whnf
          repeat' ((first
            | with_reducible first | refine ⟨fun h => h, ?_⟩ | refine ⟨pk1, ?_⟩ | refine ⟨pk2, ?_⟩ | refine ⟨pk3, ?_⟩ | refine ⟨pk4, ?_⟩ | refine ⟨pk5, ?_⟩ | refine ⟨pk6, ?_⟩ | refine ⟨trivial, ?_⟩ | refine ⟨fun _ => trivial, ?_⟩ | refine ⟨rfl, ?_⟩ | refine every_i (fun hd => ?_) | refine everyN_i (fun k hk => ?_) | refine everyD_i (fun d hd => ?_) | refine fork_t (by assumption) ?_ | refine fork_f (by assumption) ?_
            | refine fork_t rfl ?_
            | refine fork_f rfl ?_
            | with_reducible first | refine fork_i (fun h => ?_) (fun h => ?_) | refine both_i ?_ ?_
            | ((with_reducible refine alike_i ?_); exact ⟨rfl, rfl, rfl⟩)
            | ((with_reducible refine fin_i ?_); (conv => whnf); refine ⟨rfl, ?_⟩)
            | refine ⟨hib (by assumption), ?_⟩
            | refine ⟨of_decide_eq_true rfl, ?_⟩
            | refine ⟨fun _ => of_decide_eq_true rfl, ?_⟩
            | ((with_reducible refine ⟨?_, ?_⟩); (focus (intros; simp_all; done)))
            | ((with_reducible refine ⟨?_, ?_⟩); (focus (intros; omega)))) <;> (try (conv => whnf)))
          · have hi' : i < A.length := lt_t' (by assumption)
            refine next_i (i + 1, m.set i (7777, (getE tR m i).2.1, ())) ⟨hi', by rw [List.length_set]; exact hm⟩ (by dsimp only; omega) rfl rfl ?_
            conv => whnf
            refine ⟨rfl, leaf_i ?_⟩
            repeat' ((with_reducible refine And.intro ?_ ?_) <;> (try (conv => whnf)))
            all_goals (try (first | with_reducible rfl | exact True.intro | rfl | exact id | exact fun h => h | exact fun _ => rfl))
            all_goals (first | exact wrapS (by omega) | rfl | trace_state)
          · refine only [5, 2, 1, 0] ?_
            (conv => whnf)
            refine looped (σ := Nat) (fun x => [(13, I x)]) (fun x => [.cells (ndC false n), .row true tRR 28 o]) (fun x => x ≤ o.length) (fun x => o.length - x) 0 (Nat.zero_le _) ?_ ?_
            · conv => whnf
              refine ⟨rfl, leaf_i ?_⟩
              repeat' ((with_reducible refine And.intro ?_ ?_) <;> (try (conv => whnf)))
              all_goals (try (first | with_reducible rfl | exact True.intro | rfl | exact id | exact fun h => h | exact fun _ => rfl))
            · rintro q hq
              dsimp only at hq ⊢
              have hqb : decide ((q : Int) < (o.length : Int)) = true → 0 ≤ (q : Int) ∧ (q : Int) < (o.length : Int) := fun h => by have := lt_t' h; omega
              have hql : (getE tRR o (q : Int).toNat).1.length < 4611686018427387904 := Nat.lt_of_le_of_lt (get_few hx q) (by decide)
              have hqs : (!sameR (getE tRR o (q : Int).toNat).1 (getE tRR o (q : Int).toNat).1) = false := by rw [same_refl]; rfl
              conv => whnf
              repeat' ((first
                | refine fork_f hqs ?_
                | with_reducible first | refine ⟨fun h => h, ?_⟩ | refine ⟨pk1, ?_⟩ | refine ⟨pk2, ?_⟩ | refine ⟨pk3, ?_⟩ | refine ⟨pk4, ?_⟩ | refine ⟨pk5, ?_⟩ | refine ⟨pk6, ?_⟩ | refine ⟨trivial, ?_⟩ | refine ⟨fun _ => trivial, ?_⟩ | refine ⟨rfl, ?_⟩ | refine every_i (fun hd => ?_) | refine everyN_i (fun k hk => ?_) | refine everyD_i (fun d hd => ?_) | refine fork_t (by assumption) ?_ | refine fork_f (by assumption) ?_
                | refine fork_t rfl ?_
                | refine fork_f rfl ?_
                | with_reducible first | refine fork_i (fun h => ?_) (fun h => ?_) | refine both_i ?_ ?_
                | ((with_reducible refine alike_i ?_); exact ⟨rfl, rfl, rfl⟩)
                | ((with_reducible refine fin_i ?_); (conv => whnf); refine ⟨rfl, ?_⟩)
                | refine ⟨hqb (by assumption), ?_⟩
                | refine ⟨hql, ?_⟩
                | refine ⟨of_decide_eq_true rfl, ?_⟩
                | refine ⟨fun _ => of_decide_eq_true rfl, ?_⟩
                | ((with_reducible refine ⟨?_, ?_⟩); (focus (intros; simp_all; done)))
                | ((with_reducible refine ⟨?_, ?_⟩); (focus (intros; omega)))) <;> (try (conv => whnf)))
              · have hq' : q < o.length := lt_t' (by assumption)
                refine next_i (q + 1) hq' (by omega) rfl rfl ?_
                conv => whnf
                refine ⟨rfl, leaf_i ?_⟩
                repeat' ((with_reducible refine And.intro ?_ ?_) <;> (try (conv => whnf)))
                all_goals (try (first | with_reducible rfl | exact True.intro | rfl | exact id | exact fun h => h | exact fun _ => rfl))
                all_goals (first | exact wrapS (by omega) | rfl | trace_state)
              · all_goals ((with_reducible refine leaf_i ?_); (conv => whnf))
                repeat' ((with_reducible refine And.intro ?_ ?_) <;> (try (conv => whnf)))
                all_goals (try (first | with_reducible rfl | exact True.intro | rfl | exact id | exact fun h => h | exact fun _ => rfl))
                all_goals trace_state
end Go.Proofs.Ytgmbmpojcnmcgaa

/- Layer 13: what Reduce makes, sorted: keys once each, counts, least and greatest. -/
namespace Go.Proofs.Ytgmbmpojcnmcgaa
set_option maxRecDepth 100000
open Go Go.RowKit Go.Sort Go.Proofs.Ytgmbmpojcnmcgaa.Eng
def keysS (l : List Rec) : List Int := (keysF l).mergeSort fun a b => decide (a ≤ b)
theorem keysS_perm (l : List Rec) : (keysS l).Perm (keysF l) := List.mergeSort_perm _ _
theorem keysF_nd (l : List Rec) : (keysF l).Nodup := by
  have := keysF_nodup (l := l) l.length (Nat.le_refl _)
  rwa [List.take_length] at this
theorem keysF_in {l : List Rec} {k : Int} : k ∈ keysF l ↔ ∃ r ∈ l, r.1 = k := by
  have := keysF_mem (l := l) l.length (Nat.le_refl _) k
  rwa [List.take_length] at this
theorem keysS_nd (l : List Rec) : (keysS l).Nodup := (keysS_perm l).nodup_iff.2 (keysF_nd l)
theorem keysS_in {l : List Rec} {k : Int} : k ∈ keysS l ↔ ∃ r ∈ l, r.1 = k := by rw [(keysS_perm l).mem_iff]; exact keysF_in
theorem keysS_lt (l : List Rec) : (keysS l).Pairwise (· < ·) := by
  have h1 : (keysS l).Pairwise (fun a b => decide (a ≤ b) = true) := List.pairwise_mergeSort (fun a b c h1 h2 => by simp at *; omega) (fun a b => by simp; omega) _
  have h2 := keysS_nd l
  rw [List.nodup_iff_pairwise_ne] at h2
  exact (h1.and h2).imp fun ⟨h1, h2⟩ => by have := of_decide_eq_true h1; omega
theorem redR_keys (n : Nd) (l : List Rec) : redR n l = (keysF l).map fun k => redD n k l := by
  have h := redM_spec (a := n.2.1) (l := l) l.length (Nat.le_refl _)
  rw [List.take_length] at h
  unfold redR
  rw [h, List.map_map]
  rfl
theorem red_sorted (n : Nd) (l : List Rec) : srtR (redR n l) = (keysS l).map fun k => redD n k l := by
  refine srtR_of ?_ ?_
  · rw [redR_keys]; exact ((keysS_perm l).map _).symm
  · rw [List.pairwise_map]
    exact (keysS_lt l).imp fun h => (leR_iff _ _).2 (.inl h)
theorem redK_cnt {k : Int} {l : List Rec} (hl : l.length ≤ 1000) : ∀ j, j ≤ l.length → (redK 1 k (l.take j)).getD 0 = ((valsK k (l.take j)).length : Int)
  | 0, _ => by unfold redK valsK; rfl
  | j + 1, hj => by
    have ih := redK_cnt (k := k) hl j (by omega)
    have hv := valsK_len (k := k) (l := l.take j)
    rw [List.length_take] at hv
    rw [redK_take (by omega), valsK_take (by omega)]
    by_cases e : (getE tR l j).1 = k
    · rw [if_pos e, if_pos (by simp [e]), List.length_append]
      show stepV 1 _ _ = _
      unfold stepV
      rw [if_pos rfl, ih, wrapI (by omega) (by omega)]
      simp
    · rw [if_neg e, if_neg (by simpa using e), List.append_nil]; exact ih
theorem redD_cnt {n : Nd} {k : Int} {l : List Rec} (hn : n.2.1 = 1) (hl : l.length ≤ 1000) : redD n k l = (k, ((valsK k l).length : Int), ()) := by
  have := redK_cnt (k := k) hl l.length (Nat.le_refl _)
  rw [List.take_length] at this
  unfold redD; rw [hn, this]
theorem sum_zero {α : Type} (l : List α) : (l.map fun _ => 0).sum = 0 := by induction l with | nil => rfl | cons x r ih => simpa using ih
theorem cnt_sum {ks : List Int} (hn : ks.Nodup) : ∀ (l : List Rec), (∀ r ∈ l, r.1 ∈ ks) → (ks.map fun k => (valsK k l).length).sum = l.length
  | [], _ => by
    have : (ks.map fun k => (valsK k ([] : List Rec)).length) = ks.map fun _ => 0 := rfl
    rw [this]
    exact sum_zero ks
  | r :: l, h => by
    have ih := cnt_sum hn l (fun x hx => h x (by simp [hx]))
    have hr := h r (by simp)
    have e : ∀ k, (valsK k (r :: l)).length = (if k = r.1 then 1 else 0) + (valsK k l).length := fun k => by
      unfold valsK
      rw [List.filter_cons]
      by_cases e : k = r.1
      · subst e; simp; omega
      · have : ¬ r.1 = k := fun h => e h.symm
        simp [e, this]
    have e2 : (ks.map fun k => (valsK k (r :: l)).length).sum = (ks.map fun k => if k = r.1 then 1 else 0).sum + (ks.map fun k => (valsK k l).length).sum := by
      have : (ks.map fun k => (valsK k (r :: l)).length) = ks.map fun k => (if k = r.1 then 1 else 0) + (valsK k l).length := List.map_congr_left fun k _ => e k
      rw [this]
      clear ih hn hr h this e
      induction ks with
      | nil => rfl
      | cons x s ih2 => simp only [List.map_cons, List.sum_cons]; omega
    have e3 : ∀ (ks : List Int), ks.Nodup → r.1 ∈ ks → (ks.map fun k => if k = r.1 then 1 else 0).sum = 1 := fun ks => by
      induction ks with
      | nil => intro _ h; cases h
      | cons x s ih3 =>
        intro hn hm
        have hn := List.nodup_cons.1 hn
        simp only [List.map_cons, List.sum_cons]
        by_cases ex : x = r.1
        · subst ex
          have : (s.map fun k => if k = r.1 then 1 else 0) = s.map fun _ => 0 := List.map_congr_left fun k hk => if_neg (fun e : k = r.1 => hn.1 (e ▸ hk))
          rw [this, if_pos rfl, sum_zero]
        · rw [if_neg ex, ih3 hn.2 (by rcases List.mem_cons.1 hm with h | h; exact absurd h.symm ex; exact h)]
    rw [e2, e3 ks hn hr, ih, List.length_cons]; omega
theorem redK_low {k : Int} {l : List Rec} : ∀ j, j ≤ l.length → ∀ v, redK 2 k (l.take j) = some v → (∃ r ∈ l.take j, r.1 = k ∧ r.2.1 = v) ∧ ∀ r ∈ l.take j, r.1 = k → v ≤ r.2.1
  | 0, _, v, h => by unfold redK at h; cases h
  | j + 1, hj, v, h => by
    have ih := redK_low (k := k) (l := l) j (by omega)
    rw [redK_take (by omega)] at h
    rw [take_get l (by omega)]
    by_cases e : (getE tR l j).1 = k
    · rw [if_pos e] at h
      injection h with h
      have hx : ∀ r ∈ l.take j ++ [getE tR l j], r.1 = k → r ∈ l.take j ∨ r = getE tR l j := fun r hr _ => by
        rcases List.mem_append.1 hr with h | h
        · exact .inl h
        · exact .inr (List.mem_singleton.1 h)
      cases ho : redK 2 k (l.take j) with
      | none =>
        rw [ho] at h
        have hv : (getE tR l j).2.1 = v := h
        refine ⟨⟨getE tR l j, by simp, e, hv⟩, fun r hr hk => ?_⟩
        rcases hx r hr hk with h1 | h1
        · exact absurd ⟨r, h1, hk⟩ ((redK_none j (by omega)).1 ho)
        · rw [h1]; omega
      | some o =>
        rw [ho] at h
        obtain ⟨⟨r0, p1, p2, p3⟩, p4⟩ := ih o ho
        have hv : (if (getE tR l j).2.1 < o then (getE tR l j).2.1 else o) = v := h
        by_cases hlt : (getE tR l j).2.1 < o
        · rw [if_pos hlt] at hv
          refine ⟨⟨getE tR l j, by simp, e, hv⟩, fun r hr hk => ?_⟩
          rcases hx r hr hk with h1 | h1
          · have := p4 r h1 hk; omega
          · rw [h1]; omega
        · rw [if_neg hlt] at hv
          refine ⟨⟨r0, by simp [p1], p2, by omega⟩, fun r hr hk => ?_⟩
          rcases hx r hr hk with h1 | h1
          · have := p4 r h1 hk; omega
          · rw [h1]; omega
    · rw [if_neg e] at h
      obtain ⟨⟨r0, p1, p2, p3⟩, p4⟩ := ih v h
      refine ⟨⟨r0, by simp [p1], p2, p3⟩, fun r hr hk => ?_⟩
      rcases List.mem_append.1 hr with h1 | h1
      · exact p4 r h1 hk
      · rw [List.mem_singleton.1 h1] at hk; exact absurd hk e
theorem redK_high {k : Int} {l : List Rec} : ∀ j, j ≤ l.length → ∀ v, redK 3 k (l.take j) = some v → (∃ r ∈ l.take j, r.1 = k ∧ r.2.1 = v) ∧ ∀ r ∈ l.take j, r.1 = k → r.2.1 ≤ v
  | 0, _, v, h => by unfold redK at h; cases h
  | j + 1, hj, v, h => by
    have ih := redK_high (k := k) (l := l) j (by omega)
    rw [redK_take (by omega)] at h
    rw [take_get l (by omega)]
    by_cases e : (getE tR l j).1 = k
    · rw [if_pos e] at h
      injection h with h
      have hx : ∀ r ∈ l.take j ++ [getE tR l j], r.1 = k → r ∈ l.take j ∨ r = getE tR l j := fun r hr _ => by
        rcases List.mem_append.1 hr with h | h
        · exact .inl h
        · exact .inr (List.mem_singleton.1 h)
      cases ho : redK 3 k (l.take j) with
      | none =>
        rw [ho] at h
        have hv : (getE tR l j).2.1 = v := h
        refine ⟨⟨getE tR l j, by simp, e, hv⟩, fun r hr hk => ?_⟩
        rcases hx r hr hk with h1 | h1
        · exact absurd ⟨r, h1, hk⟩ ((redK_none j (by omega)).1 ho)
        · rw [h1]; omega
      | some o =>
        rw [ho] at h
        obtain ⟨⟨r0, p1, p2, p3⟩, p4⟩ := ih o ho
        have hv : (if (getE tR l j).2.1 > o then (getE tR l j).2.1 else o) = v := h
        by_cases hlt : (getE tR l j).2.1 > o
        · rw [if_pos hlt] at hv
          refine ⟨⟨getE tR l j, by simp, e, hv⟩, fun r hr hk => ?_⟩
          rcases hx r hr hk with h1 | h1
          · have := p4 r h1 hk; omega
          · rw [h1]; omega
        · rw [if_neg hlt] at hv
          refine ⟨⟨r0, by simp [p1], p2, by omega⟩, fun r hr hk => ?_⟩
          rcases hx r hr hk with h1 | h1
          · have := p4 r h1 hk; omega
          · rw [h1]; omega
    · rw [if_neg e] at h
      obtain ⟨⟨r0, p1, p2, p3⟩, p4⟩ := ih v h
      refine ⟨⟨r0, by simp [p1], p2, p3⟩, fun r hr hk => ?_⟩
      rcases List.mem_append.1 hr with h1 | h1
      · exact p4 r h1 hk
      · rw [List.mem_singleton.1 h1] at hk; exact absurd hk e
theorem redD_low {n : Nd} {k : Int} {l : List Rec} (hn : n.2.1 = 2) (hk : ∃ r ∈ l, r.1 = k) : redD n k l ∈ l ∧ ∀ r ∈ l, r.1 = k → (redD n k l).2.1 ≤ r.2.1 := by
  cases ho : redK 2 k l with
  | none =>
    have := (redK_none (a := 2) (k := k) (l := l) l.length (Nat.le_refl _))
    rw [List.take_length] at this
    exact absurd hk (this.1 ho)
  | some v =>
    have := redK_low (k := k) (l := l) l.length (Nat.le_refl _) v (by rw [List.take_length]; exact ho)
    rw [List.take_length] at this
    obtain ⟨⟨r, h1, h2, h3⟩, h4⟩ := this
    have e : redD n k l = (k, v, ()) := by unfold redD; rw [hn, ho]; rfl
    rw [e]
    refine ⟨?_, h4⟩
    have : r = (k, v, ()) := by obtain ⟨a, b, _⟩ := r; simp at h2 h3; simp [h2, h3]
    rw [← this]; exact h1
theorem redD_high {n : Nd} {k : Int} {l : List Rec} (hn : n.2.1 = 3) (hk : ∃ r ∈ l, r.1 = k) : redD n k l ∈ l ∧ ∀ r ∈ l, r.1 = k → r.2.1 ≤ (redD n k l).2.1 := by
  cases ho : redK 3 k l with
  | none =>
    have := (redK_none (a := 3) (k := k) (l := l) l.length (Nat.le_refl _))
    rw [List.take_length] at this
    exact absurd hk (this.1 ho)
  | some v =>
    have := redK_high (k := k) (l := l) l.length (Nat.le_refl _) v (by rw [List.take_length]; exact ho)
    rw [List.take_length] at this
    obtain ⟨⟨r, h1, h2, h3⟩, h4⟩ := this
    have e : redD n k l = (k, v, ()) := by unfold redD; rw [hn, ho]; rfl
    rw [e]
    refine ⟨?_, h4⟩
    have : r = (k, v, ()) := by obtain ⟨a, b, _⟩ := r; simp at h2 h3; simp [h2, h3]
    rw [← this]; exact h1
end Go.Proofs.Ytgmbmpojcnmcgaa

/- Layer 13: in whatever order records stand, the same is made; rows that are cut. -/
namespace Go.Proofs.Ytgmbmpojcnmcgaa
set_option maxRecDepth 100000
open Go Go.RowKit Go.Sort Go.Proofs.Ytgmbmpojcnmcgaa.Eng
theorem wrap_add (x y z : Int) : IntKind.i64.wrap (IntKind.i64.wrap (x + y) + z) = IntKind.i64.wrap (x + y + z) := by
  simp only [IntKind.wrap_i64]; omega
theorem step_comm (a x y : Int) (o : Option Int) : stepV a (some (stepV a o x)) y = stepV a (some (stepV a o y)) x := by
  by_cases h1 : a = 1
  · unfold stepV; simp only [if_pos h1]
  · by_cases h0 : a = 0
    · unfold stepV
      simp only [if_neg h1, if_pos h0]
      cases o with
      | none => simp only [Int.add_comm]
      | some s =>
        simp only
        rw [wrap_add, wrap_add]
        congr 1; omega
    · unfold stepV
      simp only [if_neg h1, if_neg h0]
      by_cases h2 : a = 2
      · simp only [if_pos h2]
        cases o with
        | none => simp only; split <;> split <;> omega
        | some s => simp only; repeat' split <;> (try omega)
      · simp only [if_neg h2]
        cases o with
        | none => simp only; split <;> split <;> omega
        | some s => simp only; repeat' split <;> (try omega)
theorem redK_fold {a k : Int} {l m : List Rec} (h : l.Perm m) : ∀ o : Option Int, l.foldl (fun o r => if r.1 = k then some (stepV a o r.2.1) else o) o = m.foldl (fun o r => if r.1 = k then some (stepV a o r.2.1) else o) o := by
  induction h with
  | nil => intro o; rfl
  | cons x _ ih => intro o; exact ih _
  | swap x y l =>
    intro o
    simp only [List.foldl_cons]
    congr 1
    by_cases hx : x.1 = k
    · by_cases hy : y.1 = k
      · simp only [if_pos hx, if_pos hy]; rw [step_comm]
      · simp only [if_pos hx, if_neg hy]
    · by_cases hy : y.1 = k
      · simp only [if_neg hx, if_pos hy]
      · simp only [if_neg hx, if_neg hy]
  | trans _ _ ih1 ih2 => intro o; exact (ih1 o).trans (ih2 o)
theorem redD_perm {n : Nd} {k : Int} {l m : List Rec} (h : l.Perm m) : redD n k l = redD n k m := by
  unfold redD redK; rw [redK_fold h none]
theorem keysF_perm {l m : List Rec} (h : l.Perm m) : (keysF l).Perm (keysF m) := by
  refine (List.perm_ext_iff_of_nodup (keysF_nd l) (keysF_nd m)).2 fun k => ?_
  rw [keysF_in, keysF_in]
  exact ⟨fun ⟨r, h1, h2⟩ => ⟨r, h.subset h1, h2⟩, fun ⟨r, h1, h2⟩ => ⟨r, h.symm.subset h1, h2⟩⟩
theorem redR_perm {n : Nd} {l m : List Rec} (h : l.Perm m) : (redR n l).Perm (redR n m) := by
  rw [redR_keys, redR_keys]
  have e : ((keysF l).map fun k => redD n k l) = (keysF l).map fun k => redD n k m := List.map_congr_left fun k _ => redD_perm h
  rw [e]
  exact (keysF_perm h).map _
theorem joinR_perm {a a' b : List Rec} (h : a.Perm a') : (joinR a b).Perm (joinR a' b) := by
  unfold joinR
  exact h.flatMap_right _
theorem make_one {n : Nd} {a a' : List Rec} (h : a.Perm a') (h6 : n.1 ≠ 6) : (makeN n [(a, ())]).Perm (makeN n [(a', ())]) := by
  unfold makeN
  have e : ∀ x : List Rec, (getE tRR [(x, ())] 0).1 = x := fun x => rfl
  have c : ∀ x : List Rec, catR [(x, ())] = x := fun x => by simp [catR]
  rw [e, e, c, c]
  by_cases h2 : n.1 = 2
  · rw [if_pos h2, if_pos h2]; exact h.map _
  rw [if_neg h2, if_neg h2]
  by_cases h3 : n.1 = 3
  · rw [if_pos h3, if_pos h3]; exact h.filter _
  rw [if_neg h3, if_neg h3]
  by_cases h5 : n.1 = 5
  · rw [if_pos h5, if_pos h5]; exact redR_perm h
  rw [if_neg h5, if_neg h5, if_neg h6, if_neg h6]; exact h
theorem make_two {n : Nd} {a a' b : List Rec} (h : a.Perm a') (hk : n.1 = 4 ∨ n.1 = 6) : (makeN n [(a, ()), (b, ())]).Perm (makeN n [(a', ()), (b, ())]) := by
  unfold makeN
  have c : ∀ x : List Rec, catR [(x, ()), (b, ())] = x ++ b := fun x => by simp [catR]
  have e : ∀ x : List Rec, (getE tRR [(x, ()), (b, ())] 0).1 = x := fun x => rfl
  have e1 : ∀ x : List Rec, (getE tRR [(x, ()), (b, ())] 1).1 = b := fun x => rfl
  rw [c, c, e, e, e1, e1]
  have q2 : ¬ n.1 = 2 := by omega
  have q3 : ¬ n.1 = 3 := by omega
  have q5 : ¬ n.1 = 5 := by omega
  rw [if_neg q2, if_neg q2, if_neg q3, if_neg q3, if_neg q5, if_neg q5]
  by_cases h6 : n.1 = 6
  · rw [if_pos h6, if_pos h6]; exact joinR_perm h
  · rw [if_neg h6, if_neg h6]; exact h.append_right _
theorem run_perm {n : Nd} {l m : List (El tRR)} (hl : l.length = m.length) (h : (makeN n l).Perm (makeN n m)) : runN n l = runN n m := by
  unfold runN
  rw [hl, srtR_eq h]
theorem cat_two (p q : List Rec) : srtR (catR [(p, ()), (q, ())]) = srtR (p ++ q) := by
  have : catR [(p, ()), (q, ())] = p ++ q := by simp [catR]
  rw [this]
theorem srt_app' (l m : List Rec) : srtR (srtR l ++ srtR m) = srtR (l ++ m) := srtR_eq ((srtR_perm l).append (srtR_perm m))
theorem srt_nil' : srtR [] = [] := srtR_of (List.Perm.refl _) List.Pairwise.nil
theorem make_cut {n : Nd} {a : List Rec} {k : Nat} (h5 : n.1 ≠ 5) (h6 : n.1 ≠ 6) : makeN n [(a.take k, ())] ++ makeN n [(a.drop k, ())] = makeN n [(a, ())] := by
  unfold makeN
  have e : ∀ x : List Rec, (getE tRR [(x, ())] 0).1 = x := fun x => rfl
  have c : ∀ x : List Rec, catR [(x, ())] = x := fun x => by simp [catR]
  rw [e, e, e, c, c, c]
  by_cases h2 : n.1 = 2
  · rw [if_pos h2, if_pos h2, if_pos h2, ← List.map_append, List.take_append_drop]
  rw [if_neg h2, if_neg h2, if_neg h2]
  by_cases h3 : n.1 = 3
  · rw [if_pos h3, if_pos h3, if_pos h3, ← List.filter_append, List.take_append_drop]
  rw [if_neg h3, if_neg h3, if_neg h3]
  rw [if_neg h5, if_neg h5, if_neg h5, if_neg h6, if_neg h6, if_neg h6, List.take_append_drop]
theorem make_cut2 {n : Nd} {a b : List Rec} {k : Nat} (h4 : n.1 = 4) : (makeN n [(a, ()), (b, ())]).Perm (makeN n [(a.take k, ()), (b, ())] ++ makeN n [(a.drop k, ()), ([], ())]) := by
  have c : ∀ x y : List Rec, makeN n [(x, ()), (y, ())] = x ++ y := fun x y => by
    rw [make_o (by omega) (by omega) (by omega) (by omega)]; simp [catR]
  rw [c, c, c, List.append_nil, List.append_assoc]
  have e : a ++ b = (a.take k ++ a.drop k) ++ b := by rw [List.take_append_drop]
  rw [e, List.append_assoc]
  exact (List.perm_append_comm).append_left _
theorem run_cut {n : Nd} {a : List Rec} {k : Nat} (h5 : n.1 ≠ 5) (h6 : n.1 ≠ 6) : sameR (runN n [(a, ())]).1 (srtR (catR [((runN n [(a.take k, ())]).1, ()), ((runN n [(a.drop k, ())]).1, ())])) = true := by
  rw [sameR_iff, cat_two]
  by_cases h0 : numB n = true
  · by_cases hl : (([(a, ())] : List (El tRR)).length : Int) = arityN n.1
    · rw [run_ok' h0 hl, run_ok' (n := n) (l := [(a.take k, ())]) h0 hl, run_ok' (n := n) (l := [(a.drop k, ())]) h0 hl]
      dsimp only
      rw [srt_app', make_cut h5 h6]
    · rw [run_len h0 hl, run_len (n := n) (l := [(a.take k, ())]) h0 hl, run_len (n := n) (l := [(a.drop k, ())]) h0 hl]
      exact srt_nil'.symm
  · have h0 : numB n = false := by simpa using h0
    rw [run_bad h0, run_bad h0, run_bad h0]
    exact srt_nil'.symm
theorem run_cut2 {n : Nd} {a b : List Rec} {k : Nat} (h4 : n.1 = 4) : sameR (runN n [(a, ()), (b, ())]).1 (srtR (catR [((runN n [(a.take k, ()), (b, ())]).1, ()), ((runN n [(a.drop k, ()), ([], ())]).1, ())])) = true := by
  rw [sameR_iff, cat_two]
  by_cases h0 : numB n = true
  · by_cases hl : (([(a, ()), (b, ())] : List (El tRR)).length : Int) = arityN n.1
    · rw [run_ok' h0 hl, run_ok' (n := n) (l := [(a.take k, ()), (b, ())]) h0 hl, run_ok' (n := n) (l := [(a.drop k, ()), ([], ())]) h0 hl]
      dsimp only
      rw [srt_app']
      exact srtR_eq (make_cut2 h4)
    · rw [run_len h0 hl, run_len (n := n) (l := [(a.take k, ()), (b, ())]) h0 hl, run_len (n := n) (l := [(a.drop k, ()), ([], ())]) h0 hl]
      exact srt_nil'.symm
  · have h0 : numB n = false := by simpa using h0
    rw [run_bad h0, run_bad h0, run_bad h0]
    exact srt_nil'.symm
end Go.Proofs.Ytgmbmpojcnmcgaa

/- Layer 13: the statement OpersOrder. -/
namespace Go.Proofs.Ytgmbmpojcnmcgaa
set_option maxRecDepth 100000
open Go Go.RowKit Go.Sort Go.Proofs.Ytgmbmpojcnmcgaa.Eng
theorem rev_step {a : List Rec} {j : Nat} (h : j < a.length) : (a.drop (j + 1)).reverse ++ [getE tR a j] = (a.drop j).reverse := by
  rw [drop_get a h, List.reverse_cons]
theorem tmod_rngX {c n : Int} (h0 : 0 ≤ c) (hn : 0 < n) : 0 ≤ c.tmod n ∧ c.tmod n < n := by
  rw [Int.tmod_eq_emod_of_nonneg h0]
  exact ⟨Int.emod_nonneg _ (by omega), Int.emod_lt_of_pos _ hn⟩
theorem runN_lenX {n : Nd} {l : List (El tRR)} (h : l.length ≤ 10) (h2 : ∀ x : El tRR, x ∈ l → x.1.length ≤ 3000) : (runN n l).1.length ≤ 100000000 := by
  by_cases h0 : numB n = true
  · by_cases hl : (l.length : Int) = arityN n.1
    · rw [run_ok' h0 hl, ← make_same hl]
      dsimp only
      rw [srtR_len]
      have := rmake_len (n := n) (c := 3000) h2 (by decide) l.length
      have : l.length * (3000 * 3000) ≤ 10 * (3000 * 3000) := Nat.mul_le_mul_right _ h
      omega
    · rw [run_len h0 hl]; exact Nat.zero_le _
  · rw [run_bad (by simpa using h0)]; exact Nat.zero_le _
def k_lorder : Sig := .arg (shT tN) fun n => .arg (shR tR) fun a => .arg (shR tR) fun b => .arg shI fun c => .done { pre := 0 ≤ n.2.1 ∧ n.2.2.1 ≤ 9223372036854775807, res := B true }
attribute [local irreducible] runN srtR joinR
set_option maxHeartbeats 8000000 in
theorem c_lorder : FnOk Try.prog 6 k_lorder.con := by
  refine fnOkS mixed tys_ok (cs := [(14, k_run.con), (23, k_add.con), (16, k_same.con), (17, k_waits.con), (13, k_works.con)]) ⟨c_run, c_add, c_same, c_waits, c_works, trivial⟩ Try.func6 rfl (by kernel_rfl) Try.ntmps6 _ (h := ?_)
  intro n a b c
  rcases n with ⟨kd, na, nb, nd, ins, ⟨⟩⟩
  refine ⟨rfl, fun hp => ?_⟩
  obtain ⟨ha, hb⟩ := hp
  dsimp only at ha hb
  obtain ⟨n, hn⟩ : ∃ n : Nd, n = (kd, na, nb, nd, ins, ()) := ⟨_, rfl⟩
  by_cases hl : (bif decide ((a.length : Int) > 60) then true else decide ((b.length : Int) > 60)) = true
  · conv => whnf
    repeat' ((first
      | refine fork_t hl ?_
      | with_reducible first | refine ⟨fun h => h, ?_⟩ | refine ⟨pk1, ?_⟩ | refine ⟨pk2, ?_⟩ | refine ⟨pk3, ?_⟩ | refine ⟨pk4, ?_⟩ | refine ⟨pk5, ?_⟩ | refine ⟨pk6, ?_⟩ | refine ⟨trivial, ?_⟩ | refine ⟨fun _ => trivial, ?_⟩ | refine ⟨rfl, ?_⟩ | refine every_i (fun hd => ?_) | refine everyN_i (fun k hk => ?_) | refine everyD_i (fun d hd => ?_) | refine fork_t (by assumption) ?_ | refine fork_f (by assumption) ?_
      | refine fork_t rfl ?_
      | refine fork_f rfl ?_
      | with_reducible first | refine fork_i (fun h => ?_) (fun h => ?_) | refine both_i ?_ ?_
      | ((with_reducible refine alike_i ?_); exact ⟨rfl, rfl, rfl⟩)
      | ((with_reducible refine fin_i ?_); (conv => whnf); refine ⟨rfl, ?_⟩)
      | refine ⟨of_decide_eq_true rfl, ?_⟩
      | refine ⟨fun _ => of_decide_eq_true rfl, ?_⟩
      | ((with_reducible refine ⟨?_, ?_⟩); (focus (intros; simp_all; done)))
      | ((with_reducible refine ⟨?_, ?_⟩); (focus (intros; omega)))) <;> (try (conv => whnf)))
    all_goals ((with_reducible refine leaf_i ?_); (conv => whnf))
    repeat' ((with_reducible refine And.intro ?_ ?_) <;> (try (conv => whnf)))
    all_goals (try (first | with_reducible rfl | exact True.intro | rfl | exact id | exact fun h => h | exact fun _ => rfl))
  · have hl' : (bif decide ((a.length : Int) > 60) then true else decide ((b.length : Int) > 60)) = false := by simpa using hl
    have hla : a.length ≤ 60 := by
      by_cases h : (a.length : Int) > 60
      · rw [decide_eq_true h] at hl'; cases hl'
      · omega
    have hlb : b.length ≤ 60 := by
      rw [decide_eq_false (by omega)] at hl'
      have := of_decide_eq_false hl'; omega
    conv => whnf
    repeat' ((first
      | refine fork_f hl' ?_
      | with_reducible first | refine ⟨fun h => h, ?_⟩ | refine ⟨pk1, ?_⟩ | refine ⟨pk2, ?_⟩ | refine ⟨pk3, ?_⟩ | refine ⟨pk4, ?_⟩ | refine ⟨pk5, ?_⟩ | refine ⟨pk6, ?_⟩ | refine ⟨trivial, ?_⟩ | refine ⟨fun _ => trivial, ?_⟩ | refine ⟨rfl, ?_⟩ | refine every_i (fun hd => ?_) | refine everyN_i (fun k hk => ?_) | refine everyD_i (fun d hd => ?_) | refine fork_t (by assumption) ?_ | refine fork_f (by assumption) ?_
      | refine fork_t rfl ?_
      | refine fork_f rfl ?_
      | with_reducible first | refine fork_i (fun h => ?_) (fun h => ?_) | refine both_i ?_ ?_
      | ((with_reducible refine alike_i ?_); exact ⟨rfl, rfl, rfl⟩)
      | ((with_reducible refine fin_i ?_); (conv => whnf); refine ⟨rfl, ?_⟩)
      | refine ⟨of_decide_eq_true rfl, ?_⟩
      | refine ⟨fun _ => of_decide_eq_true rfl, ?_⟩
      | ((with_reducible refine ⟨?_, ?_⟩); (focus (intros; simp_all; done)))
      | ((with_reducible refine ⟨?_, ?_⟩); (focus (intros; omega)))) <;> (try (conv => whnf)))
    refine looped (σ := Nat × List Rec) (fun x => [(10, I ((x.1 : Int) - 1)), (9, .ow 1 2 x.2.length)]) (fun x => [.cells (ndC false (kd, na, nb, nd, ins, ())), .row true tR 36 x.2]) (fun x => x.1 ≤ a.length ∧ x.2 = (a.drop x.1).reverse) (fun x => x.1) (a.length, []) ⟨Nat.le_refl _, by simp⟩ ?_ ?_
    · conv => whnf
      refine ⟨rfl, leaf_i ?_⟩
      repeat' ((with_reducible refine And.intro ?_ ?_) <;> (try (conv => whnf)))
      all_goals (try (first | with_reducible rfl | exact True.intro | rfl | exact id | exact fun h => h | exact fun _ => rfl))
      all_goals (first | exact wrapI (by omega) (by omega) | rfl | trace_state)
    · rintro ⟨j, o⟩ ⟨hj, ho⟩
      dsimp only at hj ho ⊢
      have hol : o.length = a.length - j := by rw [ho, List.length_reverse, List.length_drop]
      by_cases hj' : 0 < j
      · have hlt : decide ((j : Int) - 1 ≥ 0) = true := decide_eq_true (by omega)
        have hix : 0 ≤ (j : Int) - 1 ∧ (j : Int) - 1 < (a.length : Int) := by omega
        have hto : ((j : Int) - 1).toNat = j - 1 := by omega
        conv => whnf
        repeat' ((first
          | refine fork_t hlt ?_
          | with_reducible first | refine ⟨fun h => h, ?_⟩ | refine ⟨pk1, ?_⟩ | refine ⟨pk2, ?_⟩ | refine ⟨pk3, ?_⟩ | refine ⟨pk4, ?_⟩ | refine ⟨pk5, ?_⟩ | refine ⟨pk6, ?_⟩ | refine ⟨trivial, ?_⟩ | refine ⟨fun _ => trivial, ?_⟩ | refine ⟨rfl, ?_⟩ | refine every_i (fun hd => ?_) | refine everyN_i (fun k hk => ?_) | refine everyD_i (fun d hd => ?_) | refine fork_t (by assumption) ?_ | refine fork_f (by assumption) ?_
          | refine fork_t rfl ?_
          | refine fork_f rfl ?_
          | with_reducible first | refine fork_i (fun h => ?_) (fun h => ?_) | refine both_i ?_ ?_
          | ((with_reducible refine alike_i ?_); exact ⟨rfl, rfl, rfl⟩)
          | ((with_reducible refine fin_i ?_); (conv => whnf); refine ⟨rfl, ?_⟩)
          | refine ⟨hix, ?_⟩
          | refine ⟨of_decide_eq_true rfl, ?_⟩
          | refine ⟨fun _ => of_decide_eq_true rfl, ?_⟩
          | ((with_reducible refine ⟨?_, ?_⟩); (focus (intros; simp_all; done)))
          | ((with_reducible refine ⟨?_, ?_⟩); (focus (intros; omega)))) <;> (try (conv => whnf)))
        refine ⟨by rw [List.length_append, List.length_cons, List.length_nil]; omega, ?_⟩
        (conv => whnf)
        conv => whnf
        repeat' ((first
          | with_reducible first | refine ⟨fun h => h, ?_⟩ | refine ⟨pk1, ?_⟩ | refine ⟨pk2, ?_⟩ | refine ⟨pk3, ?_⟩ | refine ⟨pk4, ?_⟩ | refine ⟨pk5, ?_⟩ | refine ⟨pk6, ?_⟩ | refine ⟨trivial, ?_⟩ | refine ⟨fun _ => trivial, ?_⟩ | refine ⟨rfl, ?_⟩ | refine every_i (fun hd => ?_) | refine everyN_i (fun k hk => ?_) | refine everyD_i (fun d hd => ?_) | refine fork_t (by assumption) ?_ | refine fork_f (by assumption) ?_
          | refine fork_t rfl ?_
          | refine fork_f rfl ?_
          | with_reducible first | refine fork_i (fun h => ?_) (fun h => ?_) | refine both_i ?_ ?_
          | ((with_reducible refine alike_i ?_); exact ⟨rfl, rfl, rfl⟩)
          | ((with_reducible refine fin_i ?_); (conv => whnf); refine ⟨rfl, ?_⟩)
          | refine ⟨of_decide_eq_true rfl, ?_⟩
          | refine ⟨fun _ => of_decide_eq_true rfl, ?_⟩
          | ((with_reducible refine ⟨?_, ?_⟩); (focus (intros; simp_all; done)))
          | ((with_reducible refine ⟨?_, ?_⟩); (focus (intros; omega)))) <;> (try (conv => whnf)))
        refine next_i (j - 1, o ++ [getE tR a ((j : Int) - 1).toNat]) ⟨by dsimp only; omega, by
          dsimp only; rw [ho, hto]
          have := rev_step (a := a) (j := j - 1) (by omega)
          rwa [Nat.sub_add_cancel hj'] at this⟩ (by dsimp only; omega) rfl rfl ?_
        conv => whnf
        refine ⟨rfl, leaf_i ?_⟩
        repeat' ((with_reducible refine And.intro ?_ ?_) <;> (try (conv => whnf)))
        all_goals (try (first | with_reducible rfl | exact True.intro | rfl | exact id | exact fun h => h | exact fun _ => rfl))
        all_goals (first | (rw [wrapI (by omega) (by omega)]; omega) | rfl | trace_state)
      · have hj0 : j = 0 := by omega
        subst hj0
        have hro : o = a.reverse := by rw [ho, List.drop_zero]
        subst hro
        have hlt : decide (((0 : Nat) : Int) - 1 ≥ 0) = false := decide_eq_false (by omega)
        have hlr : a.reverse.length ≤ 60 := by rw [List.length_reverse]; exact hla
        have hrp2 : ∀ x y : List Rec, x.length ≤ 60 → y.length ≤ 60 → runPre (kd, na, nb, nd, ins, ()) [(x, ()), (y, ())] := fun x y h1 h2 => ⟨⟨by simp, fun z hz => by
          rcases List.mem_cons.1 hz with h | h
          · rw [h]; dsimp only; omega
          · rw [List.mem_singleton.1 h]; dsimp only; omega⟩, ha, hb⟩
        have hrp1 : ∀ x : List Rec, x.length ≤ 60 → runPre (kd, na, nb, nd, ins, ()) [(x, ())] := fun x h1 => ⟨⟨by simp, fun z hz => by
          rw [List.mem_singleton.1 hz]; dsimp only; omega⟩, ha, hb⟩
        have hln2 : ∀ x y : List Rec, x.length ≤ 60 → y.length ≤ 60 → (runN (kd, na, nb, nd, ins, ()) [(x, ()), (y, ())]).1.length ≤ 100000000 := fun x y h1 h2 => runN_lenX (by simp) fun z hz => by
          rcases List.mem_cons.1 hz with h | h
          · rw [h]; dsimp only; omega
          · rw [List.mem_singleton.1 h]; dsimp only; omega
        have hln1 : ∀ x : List Rec, x.length ≤ 60 → (runN (kd, na, nb, nd, ins, ()) [(x, ())]).1.length ≤ 100000000 := fun x h1 => runN_lenX (by simp) fun z hz => by
          rw [List.mem_singleton.1 hz]; dsimp only; omega
        have hx1 : (runN (kd, na, nb, nd, ins, ()) [(a, ())]).1.length < 4611686018427387904 := by have := hln1 a hla; omega
        have hx2 : (runN (kd, na, nb, nd, ins, ()) [(a, ()), (b, ())]).1.length < 4611686018427387904 := by have := hln2 a b hla hlb; omega
        have hs2 : (kd = 4 ∨ kd = 6) → sameR (runN (kd, na, nb, nd, ins, ()) [(a, ()), (b, ())]).1 (runN (kd, na, nb, nd, ins, ()) [(a.reverse, ()), (b, ())]).1 = true := fun h => by
          rw [run_perm (n := (kd, na, nb, nd, ins, ())) (l := [(a, ()), (b, ())]) (m := [(a.reverse, ()), (b, ())]) rfl (make_two (List.reverse_perm a).symm h)]; exact same_refl _
        have hs1 : kd ≠ 6 → sameR (runN (kd, na, nb, nd, ins, ()) [(a, ())]).1 (runN (kd, na, nb, nd, ins, ()) [(a.reverse, ())]).1 = true := fun h => by
          rw [run_perm (n := (kd, na, nb, nd, ins, ())) (l := [(a, ())]) (m := [(a.reverse, ())]) rfl (make_one (List.reverse_perm a).symm h)]; exact same_refl _
        by_cases h1 : (kd == 1) = true
        · have hne : IntKind.i64.wrap ((a.length : Int) + 1) ≠ 0 := by rw [wrapI (by omega) (by omega)]; omega
          conv => whnf
          repeat' ((first
            | refine fork_f hlt ?_
            | refine fork_t h1 ?_
            | with_reducible first | refine ⟨fun h => h, ?_⟩ | refine ⟨pk1, ?_⟩ | refine ⟨pk2, ?_⟩ | refine ⟨pk3, ?_⟩ | refine ⟨pk4, ?_⟩ | refine ⟨pk5, ?_⟩ | refine ⟨pk6, ?_⟩ | refine ⟨trivial, ?_⟩ | refine ⟨fun _ => trivial, ?_⟩ | refine ⟨rfl, ?_⟩ | refine every_i (fun hd => ?_) | refine everyN_i (fun k hk => ?_) | refine everyD_i (fun d hd => ?_) | refine fork_t (by assumption) ?_ | refine fork_f (by assumption) ?_
            | refine fork_t rfl ?_
            | refine fork_f rfl ?_
            | with_reducible first | refine fork_i (fun h => ?_) (fun h => ?_) | refine both_i ?_ ?_
            | ((with_reducible refine alike_i ?_); exact ⟨rfl, rfl, rfl⟩)
            | ((with_reducible refine fin_i ?_); (conv => whnf); refine ⟨rfl, ?_⟩)
            | refine ⟨hne, ?_⟩
            | refine ⟨of_decide_eq_true rfl, ?_⟩
            | refine ⟨fun _ => of_decide_eq_true rfl, ?_⟩
            | ((with_reducible refine ⟨?_, ?_⟩); (focus (intros; simp_all; done)))
            | ((with_reducible refine ⟨?_, ?_⟩); (focus (intros; omega)))) <;> (try (conv => whnf)))
          · all_goals ((with_reducible refine leaf_i ?_); (conv => whnf))
            repeat' ((with_reducible refine And.intro ?_ ?_) <;> (try (conv => whnf)))
            all_goals (try (first | with_reducible rfl | exact True.intro | rfl | exact id | exact fun h => h | exact fun _ => rfl))
          · all_goals ((with_reducible refine leaf_i ?_); (conv => whnf))
            repeat' ((with_reducible refine And.intro ?_ ?_) <;> (try (conv => whnf)))
            all_goals (try (first | with_reducible rfl | exact True.intro | rfl | exact id | exact fun h => h | exact fun _ => rfl))
        · have h1' : (kd == 1) = false := by simpa using h1
          by_cases hk : (bif decide ((a.length : Int) > 0) then decide (c ≥ 0) else false) = true
          · have hc : c ≥ 0 := by
              by_cases h : (a.length : Int) > 0
              · rw [decide_eq_true h] at hk; exact of_decide_eq_true hk
              · rw [decide_eq_false h] at hk; cases hk
            conv => whnf
            repeat' ((first
              | refine fork_f hlt ?_
              | refine fork_t hk ?_
              | with_reducible first | refine ⟨fun h => h, ?_⟩ | refine ⟨pk1, ?_⟩ | refine ⟨pk2, ?_⟩ | refine ⟨pk3, ?_⟩ | refine ⟨pk4, ?_⟩ | refine ⟨pk5, ?_⟩ | refine ⟨pk6, ?_⟩ | refine ⟨trivial, ?_⟩ | refine ⟨fun _ => trivial, ?_⟩ | refine ⟨rfl, ?_⟩ | refine every_i (fun hd => ?_) | refine everyN_i (fun k hk => ?_) | refine everyD_i (fun d hd => ?_) | refine fork_t (by assumption) ?_ | refine fork_f (by assumption) ?_
              | refine fork_t rfl ?_
              | refine fork_f rfl ?_
              | with_reducible first | refine fork_i (fun h => ?_) (fun h => ?_) | refine both_i ?_ ?_
              | ((with_reducible refine alike_i ?_); exact ⟨rfl, rfl, rfl⟩)
              | ((with_reducible refine fin_i ?_); (conv => whnf); refine ⟨rfl, ?_⟩)
              | refine ⟨of_decide_eq_true rfl, ?_⟩
              | refine ⟨fun _ => of_decide_eq_true rfl, ?_⟩
              | ((with_reducible refine ⟨?_, ?_⟩); (focus (intros; simp_all; done)))
              | ((with_reducible refine ⟨?_, ?_⟩); (focus (intros; omega)))) <;> (try (conv => whnf)))
            refine ⟨by rw [wrapI (by omega) (by omega)]; omega, ?_⟩
            have hKb := tmod_rngX (c := c) (n := IntKind.i64.wrap ((a.length : Int) + 1)) hc (by rw [wrapI (by omega) (by omega)]; omega)
            have hKl : c.tmod (IntKind.i64.wrap ((a.length : Int) + 1)) ≤ (a.length : Int) := by
              have h2 := hKb.2
              rw [wrapI (x := (a.length : Int) + 1) (by omega) (by omega)] at h2 ⊢; omega
            obtain ⟨hK0, _⟩ := hKb
            generalize c.tmod (IntKind.i64.wrap ((a.length : Int) + 1)) = K at hK0 hKl ⊢
            (conv => whnf)
            have hkb1 : 0 ≤ (0 : Int) ∧ (0 : Int) ≤ K ∧ K ≤ (a.length : Int) := ⟨by omega, by omega, by omega⟩
            have hkb2 : 0 ≤ K ∧ K ≤ (a.length : Int) ∧ (a.length : Int) ≤ (a.length : Int) := ⟨by omega, by omega, by omega⟩
            have hkb : 0 ≤ K ∧ K ≤ (a.length : Int) := by omega
            have hlP : (a.take K.toNat).length ≤ 60 := by rw [List.length_take]; omega
            have hlQ : (a.drop K.toNat).length ≤ 60 := by rw [List.length_drop]; omega
            have hadd2 : ([((runN (kd, na, nb, nd, ins, ()) [(a.take K.toNat, ()), (b, ())]).1, ()), ((runN (kd, na, nb, nd, ins, ()) [(a.drop K.toNat, ()), ([], ())]).1, ())] : List (El tRR)).length < 4611686018427387904 ∧ (catR [((runN (kd, na, nb, nd, ins, ()) [(a.take K.toNat, ()), (b, ())]).1, ()), ((runN (kd, na, nb, nd, ins, ()) [(a.drop K.toNat, ()), ([], ())]).1, ())]).length ≤ 1000000000 := by
              refine ⟨by simp, ?_⟩
              have h1 := hln2 _ b hlP hlb
              have h2 := hln2 _ [] hlQ (by decide)
              have : catR [((runN (kd, na, nb, nd, ins, ()) [(a.take K.toNat, ()), (b, ())]).1, ()), ((runN (kd, na, nb, nd, ins, ()) [(a.drop K.toNat, ()), ([], ())]).1, ())] = (runN (kd, na, nb, nd, ins, ()) [(a.take K.toNat, ()), (b, ())]).1 ++ (runN (kd, na, nb, nd, ins, ()) [(a.drop K.toNat, ()), ([], ())]).1 := by simp [catR]
              rw [this, List.length_append]; omega
            have hadd1 : ([((runN (kd, na, nb, nd, ins, ()) [(a.take K.toNat, ())]).1, ()), ((runN (kd, na, nb, nd, ins, ()) [(a.drop K.toNat, ())]).1, ())] : List (El tRR)).length < 4611686018427387904 ∧ (catR [((runN (kd, na, nb, nd, ins, ()) [(a.take K.toNat, ())]).1, ()), ((runN (kd, na, nb, nd, ins, ()) [(a.drop K.toNat, ())]).1, ())]).length ≤ 1000000000 := by
              refine ⟨by simp, ?_⟩
              have h1 := hln1 _ hlP
              have h2 := hln1 _ hlQ
              have : catR [((runN (kd, na, nb, nd, ins, ()) [(a.take K.toNat, ())]).1, ()), ((runN (kd, na, nb, nd, ins, ()) [(a.drop K.toNat, ())]).1, ())] = (runN (kd, na, nb, nd, ins, ()) [(a.take K.toNat, ())]).1 ++ (runN (kd, na, nb, nd, ins, ()) [(a.drop K.toNat, ())]).1 := by simp [catR]
              rw [this, List.length_append]; omega
            by_cases h4 : (kd == 4) = true
            · have e4 : kd = 4 := eq_of_beq h4
              have hsr : (!sameR (runN (kd, na, nb, nd, ins, ()) [(a, ()), (b, ())]).1 (runN (kd, na, nb, nd, ins, ()) [(a.reverse, ()), (b, ())]).1) = false := by rw [hs2 (Or.inl e4)]; rfl
              have hw : waitsB kd = false := by subst e4; rfl
              have hwg : (waitsB kd == false) = true := by rw [hw]; rfl
              have hcut := run_cut2 (n := (kd, na, nb, nd, ins, ())) (a := a) (b := b) (k := K.toNat) e4
              conv => whnf
              repeat' ((first
                | refine fork_f h1' ?_
                | refine fork_t h4 ?_
                | refine fork_f hsr ?_
                | refine fork_t hwg ?_
                | with_reducible first | refine ⟨fun h => h, ?_⟩ | refine ⟨pk1, ?_⟩ | refine ⟨pk2, ?_⟩ | refine ⟨pk3, ?_⟩ | refine ⟨pk4, ?_⟩ | refine ⟨pk5, ?_⟩ | refine ⟨pk6, ?_⟩ | refine ⟨trivial, ?_⟩ | refine ⟨fun _ => trivial, ?_⟩ | refine ⟨rfl, ?_⟩ | refine every_i (fun hd => ?_) | refine everyN_i (fun k hk => ?_) | refine everyD_i (fun d hd => ?_) | refine fork_t (by assumption) ?_ | refine fork_f (by assumption) ?_
                | refine fork_t rfl ?_
                | refine fork_f rfl ?_
                | with_reducible first | refine fork_i (fun h => ?_) (fun h => ?_) | refine both_i ?_ ?_
                | ((with_reducible refine alike_i ?_); exact ⟨rfl, rfl, rfl⟩)
                | ((with_reducible refine fin_i ?_); (conv => whnf); refine ⟨rfl, ?_⟩)
                | refine ⟨hrp2 a b hla hlb, ?_⟩
                | refine ⟨hrp2 _ b hlr hlb, ?_⟩
                | refine ⟨hrp2 _ b hlP hlb, ?_⟩
                | refine ⟨hrp2 _ [] hlQ (by decide), ?_⟩
                | refine ⟨hkb, ?_⟩
                | refine ⟨hkb1, ?_⟩
                | refine ⟨hkb2, ?_⟩
                | refine ⟨hx2, ?_⟩
                | refine ⟨fun _ => hx2, ?_⟩
                | refine ⟨hadd2, ?_⟩
                | refine ⟨fun _ => hadd2, ?_⟩
                | refine ⟨fun h => absurd h (by rw [hwg]; decide), ?_⟩
                | refine ⟨of_decide_eq_true rfl, ?_⟩
                | refine ⟨fun _ => of_decide_eq_true rfl, ?_⟩
                | ((with_reducible refine ⟨?_, ?_⟩); (focus (intros; simp_all; done)))
                | ((with_reducible refine ⟨?_, ?_⟩); (focus (intros; omega)))) <;> (try (conv => whnf)))
              all_goals ((with_reducible refine leaf_i ?_); (conv => whnf))
              repeat' ((with_reducible refine And.intro ?_ ?_) <;> (try (conv => whnf)))
              all_goals (try (first | with_reducible rfl | exact True.intro | rfl | exact id | exact fun h => h | exact fun _ => rfl))
              all_goals (dsimp only; rw [hw, hcut]; rfl)
            · have h4' : (kd == 4) = false := by simpa using h4
              by_cases h6 : (kd == 6) = true
              · have e6 : kd = 6 := eq_of_beq h6
                have hsr : (!sameR (runN (kd, na, nb, nd, ins, ()) [(a, ()), (b, ())]).1 (runN (kd, na, nb, nd, ins, ()) [(a.reverse, ()), (b, ())]).1) = false := by rw [hs2 (Or.inr e6)]; rfl
                have hw : waitsB kd = true := by subst e6; rfl
                have hwg : (waitsB kd == false) = false := by rw [hw]; rfl
                conv => whnf
                repeat' ((first
                  | refine fork_f h1' ?_
                  | refine fork_f h4' ?_
                  | refine fork_t h6 ?_
                  | refine fork_f hsr ?_
                  | refine fork_f hwg ?_
                  | with_reducible first | refine ⟨fun h => h, ?_⟩ | refine ⟨pk1, ?_⟩ | refine ⟨pk2, ?_⟩ | refine ⟨pk3, ?_⟩ | refine ⟨pk4, ?_⟩ | refine ⟨pk5, ?_⟩ | refine ⟨pk6, ?_⟩ | refine ⟨trivial, ?_⟩ | refine ⟨fun _ => trivial, ?_⟩ | refine ⟨rfl, ?_⟩ | refine every_i (fun hd => ?_) | refine everyN_i (fun k hk => ?_) | refine everyD_i (fun d hd => ?_) | refine fork_t (by assumption) ?_ | refine fork_f (by assumption) ?_
                  | refine fork_t rfl ?_
                  | refine fork_f rfl ?_
                  | with_reducible first | refine fork_i (fun h => ?_) (fun h => ?_) | refine both_i ?_ ?_
                  | ((with_reducible refine alike_i ?_); exact ⟨rfl, rfl, rfl⟩)
                  | ((with_reducible refine fin_i ?_); (conv => whnf); refine ⟨rfl, ?_⟩)
                  | refine ⟨hrp2 a b hla hlb, ?_⟩
                  | refine ⟨hrp2 _ b hlr hlb, ?_⟩
                  | refine ⟨hrp2 _ b hlP hlb, ?_⟩
                  | refine ⟨hrp2 _ [] hlQ (by decide), ?_⟩
                  | refine ⟨hkb, ?_⟩
                  | refine ⟨hkb1, ?_⟩
                  | refine ⟨hkb2, ?_⟩
                  | refine ⟨hx2, ?_⟩
                  | refine ⟨fun _ => hx2, ?_⟩
                  | refine ⟨hadd2, ?_⟩
                  | refine ⟨fun _ => hadd2, ?_⟩
                  | refine ⟨fun h => absurd h (by rw [hwg]; decide), ?_⟩
                  | refine ⟨of_decide_eq_true rfl, ?_⟩
                  | refine ⟨fun _ => of_decide_eq_true rfl, ?_⟩
                  | ((with_reducible refine ⟨?_, ?_⟩); (focus (intros; simp_all; done)))
                  | ((with_reducible refine ⟨?_, ?_⟩); (focus (intros; omega)))) <;> (try (conv => whnf)))
                all_goals ((with_reducible refine leaf_i ?_); (conv => whnf))
                repeat' ((with_reducible refine And.intro ?_ ?_) <;> (try (conv => whnf)))
                all_goals (try (first | with_reducible rfl | exact True.intro | rfl | exact id | exact fun h => h | exact fun _ => rfl))
              · have h6' : (kd == 6) = false := by simpa using h6
                have e6 : kd ≠ 6 := fun e => by rw [e] at h6'; cases h6'
                have hsr : (!sameR (runN (kd, na, nb, nd, ins, ()) [(a, ())]).1 (runN (kd, na, nb, nd, ins, ()) [(a.reverse, ())]).1) = false := by rw [hs1 e6]; rfl
                by_cases hw : waitsB kd = true
                · have hwg : (waitsB kd == false) = false := by rw [hw]; rfl
                  conv => whnf
                  repeat' ((first
                    | refine fork_f h1' ?_
                    | refine fork_f h4' ?_
                    | refine fork_f h6' ?_
                    | refine fork_f hsr ?_
                    | refine fork_f hwg ?_
                    | with_reducible first | refine ⟨fun h => h, ?_⟩ | refine ⟨pk1, ?_⟩ | refine ⟨pk2, ?_⟩ | refine ⟨pk3, ?_⟩ | refine ⟨pk4, ?_⟩ | refine ⟨pk5, ?_⟩ | refine ⟨pk6, ?_⟩ | refine ⟨trivial, ?_⟩ | refine ⟨fun _ => trivial, ?_⟩ | refine ⟨rfl, ?_⟩ | refine every_i (fun hd => ?_) | refine everyN_i (fun k hk => ?_) | refine everyD_i (fun d hd => ?_) | refine fork_t (by assumption) ?_ | refine fork_f (by assumption) ?_
                    | refine fork_t rfl ?_
                    | refine fork_f rfl ?_
                    | with_reducible first | refine fork_i (fun h => ?_) (fun h => ?_) | refine both_i ?_ ?_
                    | ((with_reducible refine alike_i ?_); exact ⟨rfl, rfl, rfl⟩)
                    | ((with_reducible refine fin_i ?_); (conv => whnf); refine ⟨rfl, ?_⟩)
                    | refine ⟨hrp1 a hla, ?_⟩
                    | refine ⟨hrp1 _ hlr, ?_⟩
                    | refine ⟨hrp1 _ hlP, ?_⟩
                    | refine ⟨hrp1 _ hlQ, ?_⟩
                    | refine ⟨hkb, ?_⟩
                    | refine ⟨hkb1, ?_⟩
                    | refine ⟨hkb2, ?_⟩
                    | refine ⟨hx1, ?_⟩
                    | refine ⟨fun _ => hx1, ?_⟩
                    | refine ⟨hadd1, ?_⟩
                    | refine ⟨fun _ => hadd1, ?_⟩
                    | refine ⟨fun h => absurd h (by rw [hwg]; decide), ?_⟩
                    | refine ⟨of_decide_eq_true rfl, ?_⟩
                    | refine ⟨fun _ => of_decide_eq_true rfl, ?_⟩
                    | ((with_reducible refine ⟨?_, ?_⟩); (focus (intros; simp_all; done)))
                    | ((with_reducible refine ⟨?_, ?_⟩); (focus (intros; omega)))) <;> (try (conv => whnf)))
                  all_goals ((with_reducible refine leaf_i ?_); (conv => whnf))
                  repeat' ((with_reducible refine And.intro ?_ ?_) <;> (try (conv => whnf)))
                  all_goals (try (first | with_reducible rfl | exact True.intro | rfl | exact id | exact fun h => h | exact fun _ => rfl))
                · have hw : waitsB kd = false := by simpa using hw
                  have hwg : (waitsB kd == false) = true := by rw [hw]; rfl
                  have e5 : kd ≠ 5 := fun e => by rw [e] at hw; cases hw
                  have hcut := run_cut (n := (kd, na, nb, nd, ins, ())) (a := a) (k := K.toNat) e5 e6
                  conv => whnf
                  repeat' ((first
                    | refine fork_f h1' ?_
                    | refine fork_f h4' ?_
                    | refine fork_f h6' ?_
                    | refine fork_f hsr ?_
                    | refine fork_t hwg ?_
                    | with_reducible first | refine ⟨fun h => h, ?_⟩ | refine ⟨pk1, ?_⟩ | refine ⟨pk2, ?_⟩ | refine ⟨pk3, ?_⟩ | refine ⟨pk4, ?_⟩ | refine ⟨pk5, ?_⟩ | refine ⟨pk6, ?_⟩ | refine ⟨trivial, ?_⟩ | refine ⟨fun _ => trivial, ?_⟩ | refine ⟨rfl, ?_⟩ | refine every_i (fun hd => ?_) | refine everyN_i (fun k hk => ?_) | refine everyD_i (fun d hd => ?_) | refine fork_t (by assumption) ?_ | refine fork_f (by assumption) ?_
                    | refine fork_t rfl ?_
                    | refine fork_f rfl ?_
                    | with_reducible first | refine fork_i (fun h => ?_) (fun h => ?_) | refine both_i ?_ ?_
                    | ((with_reducible refine alike_i ?_); exact ⟨rfl, rfl, rfl⟩)
                    | ((with_reducible refine fin_i ?_); (conv => whnf); refine ⟨rfl, ?_⟩)
                    | refine ⟨hrp1 a hla, ?_⟩
                    | refine ⟨hrp1 _ hlr, ?_⟩
                    | refine ⟨hrp1 _ hlP, ?_⟩
                    | refine ⟨hrp1 _ hlQ, ?_⟩
                    | refine ⟨hkb, ?_⟩
                    | refine ⟨hkb1, ?_⟩
                    | refine ⟨hkb2, ?_⟩
                    | refine ⟨hx1, ?_⟩
                    | refine ⟨fun _ => hx1, ?_⟩
                    | refine ⟨hadd1, ?_⟩
                    | refine ⟨fun _ => hadd1, ?_⟩
                    | refine ⟨fun h => absurd h (by rw [hwg]; decide), ?_⟩
                    | refine ⟨of_decide_eq_true rfl, ?_⟩
                    | refine ⟨fun _ => of_decide_eq_true rfl, ?_⟩
                    | ((with_reducible refine ⟨?_, ?_⟩); (focus (intros; simp_all; done)))
                    | ((with_reducible refine ⟨?_, ?_⟩); (focus (intros; omega)))) <;> (try (conv => whnf)))
                  all_goals ((with_reducible refine leaf_i ?_); (conv => whnf))
                  repeat' ((with_reducible refine And.intro ?_ ?_) <;> (try (conv => whnf)))
                  all_goals (try (first | with_reducible rfl | exact True.intro | rfl | exact id | exact fun h => h | exact fun _ => rfl))
                  all_goals (dsimp only; rw [hw, hcut]; rfl)
          · have hk' : (bif decide ((a.length : Int) > 0) then decide (c ≥ 0) else false) = false := by simpa using hk
            have hkb1 : 0 ≤ (0 : Int) ∧ (0 : Int) ≤ (0 : Int) ∧ (0 : Int) ≤ (a.length : Int) := ⟨by omega, by omega, by omega⟩
            have hkb2 : 0 ≤ (0 : Int) ∧ (0 : Int) ≤ (a.length : Int) ∧ (a.length : Int) ≤ (a.length : Int) := ⟨by omega, by omega, by omega⟩
            have hkb : 0 ≤ (0 : Int) ∧ (0 : Int) ≤ (a.length : Int) := by omega
            have hlP : (a.take (Int.toNat 0)).length ≤ 60 := by rw [List.length_take]; omega
            have hlQ : (a.drop (Int.toNat 0)).length ≤ 60 := by rw [List.length_drop]; omega
            have hadd2 : ([((runN (kd, na, nb, nd, ins, ()) [(a.take (Int.toNat 0), ()), (b, ())]).1, ()), ((runN (kd, na, nb, nd, ins, ()) [(a.drop (Int.toNat 0), ()), ([], ())]).1, ())] : List (El tRR)).length < 4611686018427387904 ∧ (catR [((runN (kd, na, nb, nd, ins, ()) [(a.take (Int.toNat 0), ()), (b, ())]).1, ()), ((runN (kd, na, nb, nd, ins, ()) [(a.drop (Int.toNat 0), ()), ([], ())]).1, ())]).length ≤ 1000000000 := by
              refine ⟨by simp, ?_⟩
              have h1 := hln2 _ b hlP hlb
              have h2 := hln2 _ [] hlQ (by decide)
              have : catR [((runN (kd, na, nb, nd, ins, ()) [(a.take (Int.toNat 0), ()), (b, ())]).1, ()), ((runN (kd, na, nb, nd, ins, ()) [(a.drop (Int.toNat 0), ()), ([], ())]).1, ())] = (runN (kd, na, nb, nd, ins, ()) [(a.take (Int.toNat 0), ()), (b, ())]).1 ++ (runN (kd, na, nb, nd, ins, ()) [(a.drop (Int.toNat 0), ()), ([], ())]).1 := by simp [catR]
              rw [this, List.length_append]; omega
            have hadd1 : ([((runN (kd, na, nb, nd, ins, ()) [(a.take (Int.toNat 0), ())]).1, ()), ((runN (kd, na, nb, nd, ins, ()) [(a.drop (Int.toNat 0), ())]).1, ())] : List (El tRR)).length < 4611686018427387904 ∧ (catR [((runN (kd, na, nb, nd, ins, ()) [(a.take (Int.toNat 0), ())]).1, ()), ((runN (kd, na, nb, nd, ins, ()) [(a.drop (Int.toNat 0), ())]).1, ())]).length ≤ 1000000000 := by
              refine ⟨by simp, ?_⟩
              have h1 := hln1 _ hlP
              have h2 := hln1 _ hlQ
              have : catR [((runN (kd, na, nb, nd, ins, ()) [(a.take (Int.toNat 0), ())]).1, ()), ((runN (kd, na, nb, nd, ins, ()) [(a.drop (Int.toNat 0), ())]).1, ())] = (runN (kd, na, nb, nd, ins, ()) [(a.take (Int.toNat 0), ())]).1 ++ (runN (kd, na, nb, nd, ins, ()) [(a.drop (Int.toNat 0), ())]).1 := by simp [catR]
              rw [this, List.length_append]; omega
            by_cases h4 : (kd == 4) = true
            · have e4 : kd = 4 := eq_of_beq h4
              have hsr : (!sameR (runN (kd, na, nb, nd, ins, ()) [(a, ()), (b, ())]).1 (runN (kd, na, nb, nd, ins, ()) [(a.reverse, ()), (b, ())]).1) = false := by rw [hs2 (Or.inl e4)]; rfl
              have hw : waitsB kd = false := by subst e4; rfl
              have hwg : (waitsB kd == false) = true := by rw [hw]; rfl
              have hcut := run_cut2 (n := (kd, na, nb, nd, ins, ())) (a := a) (b := b) (k := (Int.toNat 0)) e4
              conv => whnf
              repeat' ((first
                | refine fork_f hlt ?_
                | refine fork_f hk' ?_
                | refine fork_f h1' ?_
                | refine fork_t h4 ?_
                | refine fork_f hsr ?_
                | refine fork_t hwg ?_
                | with_reducible first | refine ⟨fun h => h, ?_⟩ | refine ⟨pk1, ?_⟩ | refine ⟨pk2, ?_⟩ | refine ⟨pk3, ?_⟩ | refine ⟨pk4, ?_⟩ | refine ⟨pk5, ?_⟩ | refine ⟨pk6, ?_⟩ | refine ⟨trivial, ?_⟩ | refine ⟨fun _ => trivial, ?_⟩ | refine ⟨rfl, ?_⟩ | refine every_i (fun hd => ?_) | refine everyN_i (fun k hk => ?_) | refine everyD_i (fun d hd => ?_) | refine fork_t (by assumption) ?_ | refine fork_f (by assumption) ?_
                | refine fork_t rfl ?_
                | refine fork_f rfl ?_
                | with_reducible first | refine fork_i (fun h => ?_) (fun h => ?_) | refine both_i ?_ ?_
                | ((with_reducible refine alike_i ?_); exact ⟨rfl, rfl, rfl⟩)
                | ((with_reducible refine fin_i ?_); (conv => whnf); refine ⟨rfl, ?_⟩)
                | refine ⟨hrp2 a b hla hlb, ?_⟩
                | refine ⟨hrp2 _ b hlr hlb, ?_⟩
                | refine ⟨hrp2 _ b hlP hlb, ?_⟩
                | refine ⟨hrp2 _ [] hlQ (by decide), ?_⟩
                | refine ⟨hkb, ?_⟩
                | refine ⟨hkb1, ?_⟩
                | refine ⟨hkb2, ?_⟩
                | refine ⟨hx2, ?_⟩
                | refine ⟨fun _ => hx2, ?_⟩
                | refine ⟨hadd2, ?_⟩
                | refine ⟨fun _ => hadd2, ?_⟩
                | refine ⟨fun h => absurd h (by rw [hwg]; decide), ?_⟩
                | refine ⟨of_decide_eq_true rfl, ?_⟩
                | refine ⟨fun _ => of_decide_eq_true rfl, ?_⟩
                | ((with_reducible refine ⟨?_, ?_⟩); (focus (intros; simp_all; done)))
                | ((with_reducible refine ⟨?_, ?_⟩); (focus (intros; omega)))) <;> (try (conv => whnf)))
              all_goals ((with_reducible refine leaf_i ?_); (conv => whnf))
              repeat' ((with_reducible refine And.intro ?_ ?_) <;> (try (conv => whnf)))
              all_goals (try (first | with_reducible rfl | exact True.intro | rfl | exact id | exact fun h => h | exact fun _ => rfl))
              all_goals (dsimp only; rw [hw, hcut]; rfl)
            · have h4' : (kd == 4) = false := by simpa using h4
              by_cases h6 : (kd == 6) = true
              · have e6 : kd = 6 := eq_of_beq h6
                have hsr : (!sameR (runN (kd, na, nb, nd, ins, ()) [(a, ()), (b, ())]).1 (runN (kd, na, nb, nd, ins, ()) [(a.reverse, ()), (b, ())]).1) = false := by rw [hs2 (Or.inr e6)]; rfl
                have hw : waitsB kd = true := by subst e6; rfl
                have hwg : (waitsB kd == false) = false := by rw [hw]; rfl
                conv => whnf
                repeat' ((first
                  | refine fork_f hlt ?_
                  | refine fork_f hk' ?_
                  | refine fork_f h1' ?_
                  | refine fork_f h4' ?_
                  | refine fork_t h6 ?_
                  | refine fork_f hsr ?_
                  | refine fork_f hwg ?_
                  | with_reducible first | refine ⟨fun h => h, ?_⟩ | refine ⟨pk1, ?_⟩ | refine ⟨pk2, ?_⟩ | refine ⟨pk3, ?_⟩ | refine ⟨pk4, ?_⟩ | refine ⟨pk5, ?_⟩ | refine ⟨pk6, ?_⟩ | refine ⟨trivial, ?_⟩ | refine ⟨fun _ => trivial, ?_⟩ | refine ⟨rfl, ?_⟩ | refine every_i (fun hd => ?_) | refine everyN_i (fun k hk => ?_) | refine everyD_i (fun d hd => ?_) | refine fork_t (by assumption) ?_ | refine fork_f (by assumption) ?_
                  | refine fork_t rfl ?_
                  | refine fork_f rfl ?_
                  | with_reducible first | refine fork_i (fun h => ?_) (fun h => ?_) | refine both_i ?_ ?_
                  | ((with_reducible refine alike_i ?_); exact ⟨rfl, rfl, rfl⟩)
                  | ((with_reducible refine fin_i ?_); (conv => whnf); refine ⟨rfl, ?_⟩)
                  | refine ⟨hrp2 a b hla hlb, ?_⟩
                  | refine ⟨hrp2 _ b hlr hlb, ?_⟩
                  | refine ⟨hrp2 _ b hlP hlb, ?_⟩
                  | refine ⟨hrp2 _ [] hlQ (by decide), ?_⟩
                  | refine ⟨hkb, ?_⟩
                  | refine ⟨hkb1, ?_⟩
                  | refine ⟨hkb2, ?_⟩
                  | refine ⟨hx2, ?_⟩
                  | refine ⟨fun _ => hx2, ?_⟩
                  | refine ⟨hadd2, ?_⟩
                  | refine ⟨fun _ => hadd2, ?_⟩
                  | refine ⟨fun h => absurd h (by rw [hwg]; decide), ?_⟩
                  | refine ⟨of_decide_eq_true rfl, ?_⟩
                  | refine ⟨fun _ => of_decide_eq_true rfl, ?_⟩
                  | ((with_reducible refine ⟨?_, ?_⟩); (focus (intros; simp_all; done)))
                  | ((with_reducible refine ⟨?_, ?_⟩); (focus (intros; omega)))) <;> (try (conv => whnf)))
                all_goals ((with_reducible refine leaf_i ?_); (conv => whnf))
                repeat' ((with_reducible refine And.intro ?_ ?_) <;> (try (conv => whnf)))
                all_goals (try (first | with_reducible rfl | exact True.intro | rfl | exact id | exact fun h => h | exact fun _ => rfl))
              · have h6' : (kd == 6) = false := by simpa using h6
                have e6 : kd ≠ 6 := fun e => by rw [e] at h6'; cases h6'
                have hsr : (!sameR (runN (kd, na, nb, nd, ins, ()) [(a, ())]).1 (runN (kd, na, nb, nd, ins, ()) [(a.reverse, ())]).1) = false := by rw [hs1 e6]; rfl
                by_cases hw : waitsB kd = true
                · have hwg : (waitsB kd == false) = false := by rw [hw]; rfl
                  conv => whnf
                  repeat' ((first
                    | refine fork_f hlt ?_
                    | refine fork_f hk' ?_
                    | refine fork_f h1' ?_
                    | refine fork_f h4' ?_
                    | refine fork_f h6' ?_
                    | refine fork_f hsr ?_
                    | refine fork_f hwg ?_
                    | with_reducible first | refine ⟨fun h => h, ?_⟩ | refine ⟨pk1, ?_⟩ | refine ⟨pk2, ?_⟩ | refine ⟨pk3, ?_⟩ | refine ⟨pk4, ?_⟩ | refine ⟨pk5, ?_⟩ | refine ⟨pk6, ?_⟩ | refine ⟨trivial, ?_⟩ | refine ⟨fun _ => trivial, ?_⟩ | refine ⟨rfl, ?_⟩ | refine every_i (fun hd => ?_) | refine everyN_i (fun k hk => ?_) | refine everyD_i (fun d hd => ?_) | refine fork_t (by assumption) ?_ | refine fork_f (by assumption) ?_
                    | refine fork_t rfl ?_
                    | refine fork_f rfl ?_
                    | with_reducible first | refine fork_i (fun h => ?_) (fun h => ?_) | refine both_i ?_ ?_
                    | ((with_reducible refine alike_i ?_); exact ⟨rfl, rfl, rfl⟩)
                    | ((with_reducible refine fin_i ?_); (conv => whnf); refine ⟨rfl, ?_⟩)
                    | refine ⟨hrp1 a hla, ?_⟩
                    | refine ⟨hrp1 _ hlr, ?_⟩
                    | refine ⟨hrp1 _ hlP, ?_⟩
                    | refine ⟨hrp1 _ hlQ, ?_⟩
                    | refine ⟨hkb, ?_⟩
                    | refine ⟨hkb1, ?_⟩
                    | refine ⟨hkb2, ?_⟩
                    | refine ⟨hx1, ?_⟩
                    | refine ⟨fun _ => hx1, ?_⟩
                    | refine ⟨hadd1, ?_⟩
                    | refine ⟨fun _ => hadd1, ?_⟩
                    | refine ⟨fun h => absurd h (by rw [hwg]; decide), ?_⟩
                    | refine ⟨of_decide_eq_true rfl, ?_⟩
                    | refine ⟨fun _ => of_decide_eq_true rfl, ?_⟩
                    | ((with_reducible refine ⟨?_, ?_⟩); (focus (intros; simp_all; done)))
                    | ((with_reducible refine ⟨?_, ?_⟩); (focus (intros; omega)))) <;> (try (conv => whnf)))
                  all_goals ((with_reducible refine leaf_i ?_); (conv => whnf))
                  repeat' ((with_reducible refine And.intro ?_ ?_) <;> (try (conv => whnf)))
                  all_goals (try (first | with_reducible rfl | exact True.intro | rfl | exact id | exact fun h => h | exact fun _ => rfl))
                · have hw : waitsB kd = false := by simpa using hw
                  have hwg : (waitsB kd == false) = true := by rw [hw]; rfl
                  have e5 : kd ≠ 5 := fun e => by rw [e] at hw; cases hw
                  have hcut := run_cut (n := (kd, na, nb, nd, ins, ())) (a := a) (k := (Int.toNat 0)) e5 e6
                  conv => whnf
                  repeat' ((first
                    | refine fork_f hlt ?_
                    | refine fork_f hk' ?_
                    | refine fork_f h1' ?_
                    | refine fork_f h4' ?_
                    | refine fork_f h6' ?_
                    | refine fork_f hsr ?_
                    | refine fork_t hwg ?_
                    | with_reducible first | refine ⟨fun h => h, ?_⟩ | refine ⟨pk1, ?_⟩ | refine ⟨pk2, ?_⟩ | refine ⟨pk3, ?_⟩ | refine ⟨pk4, ?_⟩ | refine ⟨pk5, ?_⟩ | refine ⟨pk6, ?_⟩ | refine ⟨trivial, ?_⟩ | refine ⟨fun _ => trivial, ?_⟩ | refine ⟨rfl, ?_⟩ | refine every_i (fun hd => ?_) | refine everyN_i (fun k hk => ?_) | refine everyD_i (fun d hd => ?_) | refine fork_t (by assumption) ?_ | refine fork_f (by assumption) ?_
                    | refine fork_t rfl ?_
                    | refine fork_f rfl ?_
                    | with_reducible first | refine fork_i (fun h => ?_) (fun h => ?_) | refine both_i ?_ ?_
                    | ((with_reducible refine alike_i ?_); exact ⟨rfl, rfl, rfl⟩)
                    | ((with_reducible refine fin_i ?_); (conv => whnf); refine ⟨rfl, ?_⟩)
                    | refine ⟨hrp1 a hla, ?_⟩
                    | refine ⟨hrp1 _ hlr, ?_⟩
                    | refine ⟨hrp1 _ hlP, ?_⟩
                    | refine ⟨hrp1 _ hlQ, ?_⟩
                    | refine ⟨hkb, ?_⟩
                    | refine ⟨hkb1, ?_⟩
                    | refine ⟨hkb2, ?_⟩
                    | refine ⟨hx1, ?_⟩
                    | refine ⟨fun _ => hx1, ?_⟩
                    | refine ⟨hadd1, ?_⟩
                    | refine ⟨fun _ => hadd1, ?_⟩
                    | refine ⟨fun h => absurd h (by rw [hwg]; decide), ?_⟩
                    | refine ⟨of_decide_eq_true rfl, ?_⟩
                    | refine ⟨fun _ => of_decide_eq_true rfl, ?_⟩
                    | ((with_reducible refine ⟨?_, ?_⟩); (focus (intros; simp_all; done)))
                    | ((with_reducible refine ⟨?_, ?_⟩); (focus (intros; omega)))) <;> (try (conv => whnf)))
                  all_goals ((with_reducible refine leaf_i ?_); (conv => whnf))
                  repeat' ((with_reducible refine And.intro ?_ ?_) <;> (try (conv => whnf)))
                  all_goals (try (first | with_reducible rfl | exact True.intro | rfl | exact id | exact fun h => h | exact fun _ => rfl))
                  all_goals (dsimp only; rw [hw, hcut]; rfl)
end Go.Proofs.Ytgmbmpojcnmcgaa
