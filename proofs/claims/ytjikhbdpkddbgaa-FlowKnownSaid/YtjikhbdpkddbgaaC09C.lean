/- Layer 9's functions: a graph's bytes. -/
import Derived.Test.YtjikhbdpkddbgaaC09B
import Derived.Test.YtjikhbdpkddbgaaP09P
namespace Go.Proofs.Ytjikhbdpkddbgaa
set_option linter.unusedVariables false
set_option linter.unusedSimpArgs false
open Go Go.RowKit Go.Proofs.Ytjikhbdpkddbgaa.Eng

def k_put : Sig := .arg (shR tN) fun g => .done { pre := g.length < 4611686018427387904 ∧ ∀ x : Nd, x ∈ g → (Nd.ins x).length < 4611686018427387904, res := .tup (.cons (.rl true tU (putG g).1) (.cons (I (putG g).2) .nil)) }

set_option maxRecDepth 100000 in
set_option maxHeartbeats 4000000 in
theorem c_put : FnOk Try.prog 14 k_put.con := by
  refine fnOkS mixed tys_ok (cs := [(27, k_may.con)]) ⟨c_may, trivial⟩ Try.func14 rfl (by kernel_rfl) Try.ntmps14 _ (h := ?_)
  intro g
  refine ⟨rfl, fun hp => ?_⟩
  obtain ⟨hp1, hp2⟩ := hp
  conv => whnf
  repeat' ((first
    | with_reducible refine ⟨fun h => h, ?_⟩
    | with_reducible refine ⟨pk1, ?_⟩
    | with_reducible refine ⟨pk2, ?_⟩
    | with_reducible refine ⟨pk3, ?_⟩
    | with_reducible refine ⟨pk4, ?_⟩
    | with_reducible refine ⟨pk5, ?_⟩
    | with_reducible refine ⟨pk6, ?_⟩
    | with_reducible refine ⟨trivial, ?_⟩
    | with_reducible refine ⟨fun _ => trivial, ?_⟩
    | with_reducible refine fork_t (by assumption) ?_
    | with_reducible refine fork_f (by assumption) ?_
    | refine fork_t rfl ?_
    | refine fork_f rfl ?_
    | with_reducible refine fork_i (fun h => ?_) (fun h => ?_)
    | with_reducible refine both_i ?_ ?_
    | ((with_reducible refine alike_i ?_); exact ⟨rfl, rfl, rfl⟩)
    | ((with_reducible refine fin_i ?_); (conv => whnf); refine ⟨rfl, ?_⟩)
    | refine ⟨of_decide_eq_true rfl, ?_⟩
    | refine ⟨fun _ => of_decide_eq_true rfl, ?_⟩
    | ((with_reducible refine ⟨?_, ?_⟩); (focus (intros; simp_all; done)))
    | ((with_reducible refine ⟨?_, ?_⟩); (focus (intros; omega)))) <;> (try (conv => whnf)))
  · have hg : g.length < 1 ∨ 32 < g.length := by
      rw [Bool.cond_true_left, Bool.or_eq_true] at h
      rcases h with h | h <;> have := of_decide_eq_true h <;> omega
    all_goals ((with_reducible refine leaf_i ?_); (conv => whnf))
    repeat' ((with_reducible refine And.intro ?_ ?_) <;> (try (conv => whnf)))
    all_goals (try (first | with_reducible rfl | exact True.intro | rfl | exact id | exact fun h => h | exact fun _ => rfl))
    all_goals (unfold putG; rw [if_pos hg])
  · have hg : ¬ (g.length < 1 ∨ 32 < g.length) := by
      rw [Bool.cond_true_left, Bool.or_eq_false_iff] at h
      have h1 := of_decide_eq_false h.1
      have h2 := of_decide_eq_false h.2
      omega
    refine kept [] ?_
    (conv => whnf)
    refine looped (σ := Nat × List (El tU)) (fun x => [(24, I x.1), (4, .ow 0 1 x.2.length)]) (fun x => [.row true tU 5 x.2]) (fun x => x.1 ≤ g.length ∧ x.2.length ≤ 1 + 14 * x.1 ∧ (putF (g.drop x.1)).map (x.2 ++ ·) = (putF g).map (u8 g.length :: ·)) (fun x => g.length - x.1) (0, [u8 g.length]) ⟨Nat.zero_le _, Nat.le_refl _, rfl⟩ ?_ ?_
    · conv => whnf
      refine ⟨rfl, leaf_i ?_⟩
      repeat' ((with_reducible refine And.intro ?_ ?_) <;> (try (conv => whnf)))
      all_goals (try (first | with_reducible rfl | exact True.intro | rfl | exact id | exact fun h => h | exact fun _ => rfl))
    · rintro ⟨j, l⟩ ⟨hj, hs, hl⟩
      dsimp only at hj hs hl
      conv => whnf
      repeat' ((first
        | with_reducible refine ⟨fun h => h, ?_⟩
        | with_reducible refine ⟨pk1, ?_⟩
        | with_reducible refine ⟨pk2, ?_⟩
        | with_reducible refine ⟨pk3, ?_⟩
        | with_reducible refine ⟨pk4, ?_⟩
        | with_reducible refine ⟨pk5, ?_⟩
        | with_reducible refine ⟨pk6, ?_⟩
        | with_reducible refine ⟨trivial, ?_⟩
        | with_reducible refine ⟨fun _ => trivial, ?_⟩
        | with_reducible refine fork_t (by assumption) ?_
        | with_reducible refine fork_f (by assumption) ?_
        | refine fork_t rfl ?_
        | refine fork_f rfl ?_
        | with_reducible refine fork_i (fun h => ?_) (fun h => ?_)
        | with_reducible refine both_i ?_ ?_
        | ((with_reducible refine alike_i ?_); exact ⟨rfl, rfl, rfl⟩)
        | ((with_reducible refine fin_i ?_); (conv => whnf); refine ⟨rfl, ?_⟩)
        | refine ⟨of_decide_eq_true rfl, ?_⟩
        | refine ⟨fun _ => of_decide_eq_true rfl, ?_⟩
        | ((with_reducible refine ⟨?_, ?_⟩); (focus (intros; simp_all; done)))
        | ((with_reducible refine ⟨?_, ?_⟩); (focus (intros; omega)))) <;> (try (conv => whnf)))
      · have hj' := lt_t h
        have hm := getE_mem g hj'
        have hn := hp2 _ hm
        rw [drop_get g hj', putF] at hl
        refine ⟨hn, ?_⟩
        (conv => whnf)
        conv => whnf
        repeat' ((first
          | with_reducible refine ⟨fun h => h, ?_⟩
          | with_reducible refine ⟨pk1, ?_⟩
          | with_reducible refine ⟨pk2, ?_⟩
          | with_reducible refine ⟨pk3, ?_⟩
          | with_reducible refine ⟨pk4, ?_⟩
          | with_reducible refine ⟨pk5, ?_⟩
          | with_reducible refine ⟨pk6, ?_⟩
          | with_reducible refine ⟨trivial, ?_⟩
          | with_reducible refine ⟨fun _ => trivial, ?_⟩
          | with_reducible refine fork_t (by assumption) ?_
          | with_reducible refine fork_f (by assumption) ?_
          | refine fork_t rfl ?_
          | refine fork_f rfl ?_
          | with_reducible refine fork_i (fun h => ?_) (fun h => ?_)
          | with_reducible refine both_i ?_ ?_
          | ((with_reducible refine alike_i ?_); exact ⟨rfl, rfl, rfl⟩)
          | ((with_reducible refine fin_i ?_); (conv => whnf); refine ⟨rfl, ?_⟩)
          | ((with_reducible refine ⟨?_, ?_⟩); (focus (simp only [List.length_append, List.length_cons, List.length_nil]; omega)))
          | refine ⟨of_decide_eq_true rfl, ?_⟩
          | refine ⟨fun _ => of_decide_eq_true rfl, ?_⟩
          | ((with_reducible refine ⟨?_, ?_⟩); (focus (intros; simp_all; done)))
          | ((with_reducible refine ⟨?_, ?_⟩); (focus (intros; omega)))) <;> (try (conv => whnf)))
        · have hy : ¬ mayN (getE tN g j) = true := by
            have h : (!mayN (getE tN g j)) = true := h
            simpa using h
          rw [if_neg hy] at hl
          have hq : putF g = none := by
            cases hf : putF g with
            | none => rfl
            | some y => rw [hf] at hl; cases hl
          all_goals ((with_reducible refine leaf_i ?_); (conv => whnf))
          repeat' ((with_reducible refine And.intro ?_ ?_) <;> (try (conv => whnf)))
          all_goals (try (first | with_reducible rfl | exact True.intro | rfl | exact id | exact fun h => h | exact fun _ => rfl))
          all_goals (unfold putG; rw [if_neg hg, hq])
        · have hy : mayN (getE tN g j) = true := by
            have h : (!mayN (getE tN g j)) = false := h
            simpa using h
          rw [if_pos hy] at hl
          refine unroll 9 ?_
          (conv => whnf)
          conv => whnf
          repeat' ((first
            | with_reducible refine ⟨fun h => h, ?_⟩
            | with_reducible refine ⟨pk1, ?_⟩
            | with_reducible refine ⟨pk2, ?_⟩
            | with_reducible refine ⟨pk3, ?_⟩
            | with_reducible refine ⟨pk4, ?_⟩
            | with_reducible refine ⟨pk5, ?_⟩
            | with_reducible refine ⟨pk6, ?_⟩
            | with_reducible refine ⟨trivial, ?_⟩
            | with_reducible refine ⟨fun _ => trivial, ?_⟩
            | with_reducible refine fork_t (by assumption) ?_
            | with_reducible refine fork_f (by assumption) ?_
            | refine fork_t rfl ?_
            | refine fork_f rfl ?_
            | with_reducible refine fork_i (fun h => ?_) (fun h => ?_)
            | with_reducible refine both_i ?_ ?_
            | ((with_reducible refine alike_i ?_); exact ⟨rfl, rfl, rfl⟩)
            | ((with_reducible refine fin_i ?_); (conv => whnf); refine ⟨rfl, ?_⟩)
            | ((with_reducible refine ⟨?_, ?_⟩); (focus (simp only [List.length_append, List.length_cons, List.length_nil]; omega)))
            | refine ⟨of_decide_eq_true rfl, ?_⟩
            | refine ⟨fun _ => of_decide_eq_true rfl, ?_⟩
            | ((with_reducible refine ⟨?_, ?_⟩); (focus (intros; simp_all; done)))
            | ((with_reducible refine ⟨?_, ?_⟩); (focus (intros; omega)))) <;> (try (conv => whnf)))
          refine kept [6] ?_
          (conv => whnf)
          refine looped (σ := Nat × List (El tU)) (fun x => [(63, I x.1), (4, .ow 0 1 x.2.length)]) (fun x => [.row true tU 5 x.2, .cells (ndC false (getE tN g j))]) (fun x => x.1 ≤ (Nd.ins (getE tN g j)).length ∧ x.2 ++ (((Nd.ins (getE tN g j)).drop x.1).map fun x => u8 x.1) = l ++ putN (getE tN g j)) (fun x => (Nd.ins (getE tN g j)).length - x.1) (0, l ++ (putN (getE tN g j)).take 12) ⟨Nat.zero_le _, by rw [List.append_assoc]; rfl⟩ ?_ ?_
          · conv => whnf
            refine ⟨rfl, leaf_i ?_⟩
            repeat' ((with_reducible refine And.intro ?_ ?_) <;> (try (conv => whnf)))
            all_goals (try (first | with_reducible rfl | exact True.intro | rfl | exact id | exact fun h => h | exact fun _ => rfl))
            · refine congrArg List.length (?_ : _ = l ++ (putN (getE tN g j)).take 12)
              simp only [List.append_assoc, List.cons_append, List.nil_append]
              rfl
            · show _ = l ++ (putN (getE tN g j)).take 12
              simp only [List.append_assoc, List.cons_append, List.nil_append]
              rfl
          · rintro ⟨k, l2⟩ ⟨hk, hl2⟩
            dsimp only at hk hl2
            have hb2 := may_len hy
            have hb3 : l2.length + ((Nd.ins (getE tN g j)).length - k) = l.length + (12 + (Nd.ins (getE tN g j)).length) := by
              have := congrArg List.length hl2
              simp only [List.length_append, List.length_map, List.length_drop] at this
              exact this.trans (congrArg (l.length + ·) (putN_len _))
            conv => whnf
            repeat' ((first
              | with_reducible refine ⟨fun h => h, ?_⟩
              | with_reducible refine ⟨pk1, ?_⟩
              | with_reducible refine ⟨pk2, ?_⟩
              | with_reducible refine ⟨pk3, ?_⟩
              | with_reducible refine ⟨pk4, ?_⟩
              | with_reducible refine ⟨pk5, ?_⟩
              | with_reducible refine ⟨pk6, ?_⟩
              | with_reducible refine ⟨trivial, ?_⟩
              | with_reducible refine ⟨fun _ => trivial, ?_⟩
              | with_reducible refine fork_t (by assumption) ?_
              | with_reducible refine fork_f (by assumption) ?_
              | refine fork_t rfl ?_
              | refine fork_f rfl ?_
              | with_reducible refine fork_i (fun h => ?_) (fun h => ?_)
              | with_reducible refine both_i ?_ ?_
              | ((with_reducible refine alike_i ?_); exact ⟨rfl, rfl, rfl⟩)
              | ((with_reducible refine fin_i ?_); (conv => whnf); refine ⟨rfl, ?_⟩)
              | ((with_reducible refine ⟨?_, ?_⟩); (focus (simp only [List.length_append, List.length_cons, List.length_nil]; omega)))
              | refine ⟨of_decide_eq_true rfl, ?_⟩
              | refine ⟨fun _ => of_decide_eq_true rfl, ?_⟩
              | ((with_reducible refine ⟨?_, ?_⟩); (focus (intros; simp_all; done)))
              | ((with_reducible refine ⟨?_, ?_⟩); (focus (intros; omega)))) <;> (try (conv => whnf)))
            · have hk' : k < (Nd.ins (getE tN g j)).length := lt_t h
              rw [drop_get _ hk', List.map_cons] at hl2
              refine next_i (k + 1, l2 ++ [u8 (getE tI (Nd.ins (getE tN g j)) k).1]) ⟨hk', by simpa using hl2⟩ (by dsimp only; omega) rfl rfl ?_
              conv => whnf
              refine ⟨rfl, leaf_i ?_⟩
              repeat' ((with_reducible refine And.intro ?_ ?_) <;> (try (conv => whnf)))
              all_goals (try (first | with_reducible rfl | exact True.intro | rfl | exact id | exact fun h => h | exact fun _ => rfl))
              all_goals (exact wrapS (by dsimp only; omega))
            · have hk' : (Nd.ins (getE tN g j)).length ≤ k := lt_f h
              rw [List.drop_eq_nil_of_le hk', List.map_nil, List.append_nil] at hl2
              refine next_i (j + 1, l ++ putN (getE tN g j)) ⟨hj', by have := putN_len (getE tN g j); show (l ++ putN (getE tN g j)).length ≤ 1 + 14 * (j + 1); rw [List.length_append]; omega, ?_⟩ (by dsimp only; omega) rfl rfl ?_
              · rw [← hl]
                cases putF (List.drop (j + 1) g) with
                | none => rfl
                | some y => simp
              subst hl2
              conv => whnf
              refine ⟨rfl, leaf_i ?_⟩
              repeat' ((with_reducible refine And.intro ?_ ?_) <;> (try (conv => whnf)))
              all_goals (try (first | with_reducible rfl | exact True.intro | rfl | exact id | exact fun h => h | exact fun _ => rfl))
              all_goals (exact wrapS (by dsimp only; omega))
      · have hj' := lt_f h
        rw [List.drop_eq_nil_of_le hj', putF] at hl
        have hl : putG g = (l, 0) := by
          unfold putG
          rw [if_neg hg]
          cases hf : putF g with
          | none => rw [hf] at hl; cases hl
          | some y => 
            rw [hf] at hl
            have : l ++ [] = u8 g.length :: y := by injection hl
            rw [List.append_nil] at this
            rw [this]
        all_goals ((with_reducible refine leaf_i ?_); (conv => whnf))
        repeat' ((with_reducible refine And.intro ?_ ?_) <;> (try (conv => whnf)))
        all_goals (try (first | with_reducible rfl | exact True.intro | rfl | exact id | exact fun h => h | exact fun _ => rfl))
        all_goals (rw [hl])

end Go.Proofs.Ytjikhbdpkddbgaa
