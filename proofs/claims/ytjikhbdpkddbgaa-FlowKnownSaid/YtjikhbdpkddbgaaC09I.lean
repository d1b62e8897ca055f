/- The document's Put of layer 9. -/
import Derived.Test.YtjikhbdpkddbgaaC09G
import Derived.Test.YtjikhbdpkddbgaaP09P
namespace Go.Proofs.Ytjikhbdpkddbgaa
set_option linter.unusedVariables false
set_option linter.unusedSimpArgs false
open Go Go.RowKit Go.Proofs.Ytjikhbdpkddbgaa.Eng

def k_rput : Sig := .arg (shR tN) fun g => .done { pre := fitG g, res := .tup (.cons (.rl true tU (putG g).1) (.cons (I (putG g).2) .nil)) }
theorem cs_rput : AllFn Try.prog [(28, k_rmay.con)] := ⟨c_rmay, trivial⟩
theorem flat_snoc {g : List Nd} {j : Nat} (h : j < g.length) : (g.take (j + 1)).flatMap putN = (g.take j).flatMap putN ++ putN (getE tN g j) := by
  rw [take_get g h, List.flatMap_append]; simp
theorem flat_len {g : List Nd} (h : ∀ n ∈ g, mayN n = true) : ∀ j, j ≤ g.length → ((g.take j).flatMap putN).length ≤ 14 * j
  | 0, _ => by simp
  | j + 1, hj => by
    rw [flat_snoc hj, List.length_append]
    have h1 := flat_len h j (by omega)
    have h2 := putN_len (getE tN g j)
    have h3 := may_len (h _ (getE_mem g hj))
    omega

set_option maxRecDepth 100000 in
set_option maxHeartbeats 8000000 in
theorem c_rput : FnOk Try.prog 15 k_rput.con := by
  refine fnOkS mixed tys_ok (cs := [(28, k_rmay.con)]) cs_rput Try.func15 rfl (by kernel_rfl) Try.ntmps15 _ (h := ?_)
  intro g
  refine ⟨rfl, fun hp => ?_⟩
  obtain ⟨hp1, hp2⟩ := hp
  conv => whnf
  repeat' ((first
    | with_reducible refine ⟨fun h => h, ?_⟩
    | with_reducible refine ⟨pk1, ?_⟩
    | with_reducible refine ⟨pk2, ?_⟩
    | with_reducible refine ⟨pk3, ?_⟩
    | with_reducible refine ⟨pk4, ?_⟩
    | with_reducible refine ⟨pk5, ?_⟩
    | with_reducible refine ⟨pk6, ?_⟩
    | with_reducible refine ⟨trivial, ?_⟩
    | with_reducible refine ⟨fun _ => trivial, ?_⟩
    | with_reducible refine fork_t (by assumption) ?_
    | with_reducible refine fork_f (by assumption) ?_
    | refine fork_t rfl ?_
    | refine fork_f rfl ?_
    | with_reducible refine fork_i (fun h => ?_) (fun h => ?_)
    | with_reducible refine both_i ?_ ?_
    | ((with_reducible refine alike_i ?_); exact ⟨rfl, rfl, rfl⟩)
    | ((with_reducible refine fin_i ?_); (conv => whnf); refine ⟨rfl, ?_⟩)
    | refine ⟨of_decide_eq_true rfl, ?_⟩
    | refine ⟨fun _ => of_decide_eq_true rfl, ?_⟩
    | ((with_reducible refine ⟨?_, ?_⟩); (focus (intros; simp_all; done)))
    | ((with_reducible refine ⟨?_, ?_⟩); (focus (intros; omega)))) <;> (try (conv => whnf)))
  · have hg : g.length < 1 ∨ 32 < g.length := by
      rw [Bool.cond_true_left, Bool.or_eq_true] at h
      rcases h with h | h <;> have := of_decide_eq_true h <;> omega
    all_goals ((with_reducible refine leaf_i ?_); (conv => whnf))
    repeat' ((with_reducible refine And.intro ?_ ?_) <;> (try (conv => whnf)))
    all_goals (try (first | with_reducible rfl | exact True.intro | rfl | exact id | exact fun h => h | exact fun _ => rfl))
    all_goals (unfold putG; rw [if_pos hg])
  · have hg : ¬ (g.length < 1 ∨ 32 < g.length) := by
      rw [Bool.cond_true_left, Bool.or_eq_false_iff] at h
      have h1 := of_decide_eq_false h.1
      have h2 := of_decide_eq_false h.2
      omega
    refine ⟨⟨hp1, hp2⟩, ?_⟩
    (conv => whnf)
    conv => whnf
    repeat' ((first
      | with_reducible refine ⟨fun h => h, ?_⟩
      | with_reducible refine ⟨pk1, ?_⟩
      | with_reducible refine ⟨pk2, ?_⟩
      | with_reducible refine ⟨pk3, ?_⟩
      | with_reducible refine ⟨pk4, ?_⟩
      | with_reducible refine ⟨pk5, ?_⟩
      | with_reducible refine ⟨pk6, ?_⟩
      | with_reducible refine ⟨trivial, ?_⟩
      | with_reducible refine ⟨fun _ => trivial, ?_⟩
      | with_reducible refine fork_t (by assumption) ?_
      | with_reducible refine fork_f (by assumption) ?_
      | refine fork_t rfl ?_
      | refine fork_f rfl ?_
      | with_reducible refine fork_i (fun h => ?_) (fun h => ?_)
      | with_reducible refine both_i ?_ ?_
      | ((with_reducible refine alike_i ?_); exact ⟨rfl, rfl, rfl⟩)
      | ((with_reducible refine fin_i ?_); (conv => whnf); refine ⟨rfl, ?_⟩)
      | refine ⟨of_decide_eq_true rfl, ?_⟩
      | refine ⟨fun _ => of_decide_eq_true rfl, ?_⟩
      | ((with_reducible refine ⟨?_, ?_⟩); (focus (intros; simp_all; done)))
      | ((with_reducible refine ⟨?_, ?_⟩); (focus (intros; omega)))) <;> (try (conv => whnf)))
    · have hm : g.all mayN = false := by
        have h : mayG g = false := not_t h
        unfold mayG at h
        rw [decide_eq_true (by omega), decide_eq_true (by omega)] at h
        simpa using h
      have hG : putG g = ([], 90) := by unfold putG; rw [if_neg hg, putF_all, hm]; rfl
      all_goals ((with_reducible refine leaf_i ?_); (conv => whnf))
      repeat' ((with_reducible refine And.intro ?_ ?_) <;> (try (conv => whnf)))
      all_goals (try (first | with_reducible rfl | exact True.intro | rfl | exact id | exact fun h => h | exact fun _ => rfl))
      all_goals (rw [hG])
    · have hm : g.all mayN = true := by
        have h : mayG g = true := not_f h
        unfold mayG at h
        rw [Bool.and_eq_true] at h
        exact h.1
      have hG : putG g = (u8 g.length :: g.flatMap putN, 0) := by unfold putG; rw [if_neg hg, putF_all, hm]; rfl
      have hma : ∀ n ∈ g, mayN n = true := fun n hn => List.all_eq_true.1 hm n hn
      refine kept [] ?_
      (conv => whnf)
      refine looped (σ := Nat × List (El tU)) (fun x => [(5, I x.1), (4, .ow 0 1 x.2.length)]) (fun x => [.row true tU 5 x.2]) (fun x => x.1 ≤ g.length ∧ x.2 = u8 g.length :: (g.take x.1).flatMap putN) (fun x => g.length - x.1) (0, [u8 g.length]) ⟨Nat.zero_le _, rfl⟩ ?_ ?_
      · conv => whnf
        refine ⟨rfl, leaf_i ?_⟩
        repeat' ((with_reducible refine And.intro ?_ ?_) <;> (try (conv => whnf)))
        all_goals (try (first | with_reducible rfl | exact True.intro | rfl | exact id | exact fun h => h | exact fun _ => rfl))
      · rintro ⟨j, l⟩ ⟨hj, hl⟩
        dsimp only at hj hl
        have hs : l.length ≤ 1 + 14 * j := by rw [hl, List.length_cons]; have := flat_len hma j hj; omega
        conv => whnf
        repeat' ((first
          | with_reducible refine ⟨fun h => h, ?_⟩
          | with_reducible refine ⟨pk1, ?_⟩
          | with_reducible refine ⟨pk2, ?_⟩
          | with_reducible refine ⟨pk3, ?_⟩
          | with_reducible refine ⟨pk4, ?_⟩
          | with_reducible refine ⟨pk5, ?_⟩
          | with_reducible refine ⟨pk6, ?_⟩
          | with_reducible refine ⟨trivial, ?_⟩
          | with_reducible refine ⟨fun _ => trivial, ?_⟩
          | with_reducible refine fork_t (by assumption) ?_
          | with_reducible refine fork_f (by assumption) ?_
          | refine fork_t rfl ?_
          | refine fork_f rfl ?_
          | with_reducible refine fork_i (fun h => ?_) (fun h => ?_)
          | with_reducible refine both_i ?_ ?_
          | ((with_reducible refine alike_i ?_); exact ⟨rfl, rfl, rfl⟩)
          | ((with_reducible refine fin_i ?_); (conv => whnf); refine ⟨rfl, ?_⟩)
          | ((with_reducible refine ⟨?_, ?_⟩); (focus (simp only [List.length_append, List.length_cons, List.length_nil]; omega)))
          | refine ⟨of_decide_eq_true rfl, ?_⟩
          | refine ⟨fun _ => of_decide_eq_true rfl, ?_⟩
          | ((with_reducible refine ⟨?_, ?_⟩); (focus (intros; simp_all; done)))
          | ((with_reducible refine ⟨?_, ?_⟩); (focus (intros; omega)))) <;> (try (conv => whnf)))
        · have hj' : j < g.length := lt_t (by assumption)
          have hy := hma _ (getE_mem g hj')
          have hb2 := may_len hy
          refine unroll 9 ?_
          (conv => whnf)
          conv => whnf
          repeat' ((first
            | with_reducible refine ⟨fun h => h, ?_⟩
            | with_reducible refine ⟨pk1, ?_⟩
            | with_reducible refine ⟨pk2, ?_⟩
            | with_reducible refine ⟨pk3, ?_⟩
            | with_reducible refine ⟨pk4, ?_⟩
            | with_reducible refine ⟨pk5, ?_⟩
            | with_reducible refine ⟨pk6, ?_⟩
            | with_reducible refine ⟨trivial, ?_⟩
            | with_reducible refine ⟨fun _ => trivial, ?_⟩
            | with_reducible refine fork_t (by assumption) ?_
            | with_reducible refine fork_f (by assumption) ?_
            | refine fork_t rfl ?_
            | refine fork_f rfl ?_
            | with_reducible refine fork_i (fun h => ?_) (fun h => ?_)
            | with_reducible refine both_i ?_ ?_
            | ((with_reducible refine alike_i ?_); exact ⟨rfl, rfl, rfl⟩)
            | ((with_reducible refine fin_i ?_); (conv => whnf); refine ⟨rfl, ?_⟩)
            | ((with_reducible refine ⟨?_, ?_⟩); (focus (simp only [List.length_append, List.length_cons, List.length_nil]; omega)))
            | refine ⟨of_decide_eq_true rfl, ?_⟩
            | refine ⟨fun _ => of_decide_eq_true rfl, ?_⟩
            | ((with_reducible refine ⟨?_, ?_⟩); (focus (intros; simp_all; done)))
            | ((with_reducible refine ⟨?_, ?_⟩); (focus (intros; omega)))) <;> (try (conv => whnf)))
          refine kept [6] ?_
          (conv => whnf)
          refine looped (σ := Nat × List (El tU)) (fun x => [(8, I x.1), (4, .ow 0 1 x.2.length)]) (fun x => [.row true tU 5 x.2, .cells (ndC false (getE tN g j))]) (fun x => x.1 ≤ (Nd.ins (getE tN g j)).length ∧ x.2 ++ (((Nd.ins (getE tN g j)).drop x.1).map fun x => u8 x.1) = l ++ putN (getE tN g j)) (fun x => (Nd.ins (getE tN g j)).length - x.1) (0, l ++ (putR (getE tN g j)).take 12) ⟨Nat.zero_le _, by rw [List.append_assoc, ← putR_eq]; rfl⟩ ?_ ?_
          · conv => whnf
            refine ⟨rfl, leaf_i ?_⟩
            repeat' ((with_reducible refine And.intro ?_ ?_) <;> (try (conv => whnf)))
            all_goals (try (first | with_reducible rfl | exact True.intro | rfl | exact id | exact fun h => h | exact fun _ => rfl))
            · refine congrArg List.length (?_ : _ = l ++ (putR (getE tN g j)).take 12)
              simp only [List.append_assoc, List.cons_append, List.nil_append]
              rfl
            · show _ = l ++ (putR (getE tN g j)).take 12
              simp only [List.append_assoc, List.cons_append, List.nil_append]
              rfl
          · rintro ⟨k, l2⟩ ⟨hk, hl2⟩
            dsimp only at hk hl2
            have hb3 : l2.length + ((Nd.ins (getE tN g j)).length - k) = l.length + (12 + (Nd.ins (getE tN g j)).length) := by
              have := congrArg List.length hl2
              simp only [List.length_append, List.length_map, List.length_drop] at this
              exact this.trans (congrArg (l.length + ·) (putN_len _))
            conv => whnf
            repeat' ((first
              | with_reducible refine ⟨fun h => h, ?_⟩
              | with_reducible refine ⟨pk1, ?_⟩
              | with_reducible refine ⟨pk2, ?_⟩
              | with_reducible refine ⟨pk3, ?_⟩
              | with_reducible refine ⟨pk4, ?_⟩
              | with_reducible refine ⟨pk5, ?_⟩
              | with_reducible refine ⟨pk6, ?_⟩
              | with_reducible refine ⟨trivial, ?_⟩
              | with_reducible refine ⟨fun _ => trivial, ?_⟩
              | with_reducible refine fork_t (by assumption) ?_
              | with_reducible refine fork_f (by assumption) ?_
              | refine fork_t rfl ?_
              | refine fork_f rfl ?_
              | with_reducible refine fork_i (fun h => ?_) (fun h => ?_)
              | with_reducible refine both_i ?_ ?_
              | ((with_reducible refine alike_i ?_); exact ⟨rfl, rfl, rfl⟩)
              | ((with_reducible refine fin_i ?_); (conv => whnf); refine ⟨rfl, ?_⟩)
              | ((with_reducible refine ⟨?_, ?_⟩); (focus (simp only [List.length_append, List.length_cons, List.length_nil]; omega)))
              | refine ⟨of_decide_eq_true rfl, ?_⟩
              | refine ⟨fun _ => of_decide_eq_true rfl, ?_⟩
              | ((with_reducible refine ⟨?_, ?_⟩); (focus (intros; simp_all; done)))
              | ((with_reducible refine ⟨?_, ?_⟩); (focus (intros; omega)))) <;> (try (conv => whnf)))
            · have hk' : k < (Nd.ins (getE tN g j)).length := lt_t (by assumption)
              rw [drop_get _ hk', List.map_cons] at hl2
              refine next_i (k + 1, l2 ++ [u8 (getE tI (Nd.ins (getE tN g j)) k).1]) ⟨hk', by simpa using hl2⟩ (by dsimp only; omega) rfl rfl ?_
              conv => whnf
              refine ⟨rfl, leaf_i ?_⟩
              repeat' ((with_reducible refine And.intro ?_ ?_) <;> (try (conv => whnf)))
              all_goals (try (first | with_reducible rfl | exact True.intro | rfl | exact id | exact fun h => h | exact fun _ => rfl))
              all_goals (exact wrapS (by (try dsimp only); omega))
            · have hk' : (Nd.ins (getE tN g j)).length ≤ k := lt_f (by assumption)
              rw [List.drop_eq_nil_of_le hk', List.map_nil, List.append_nil] at hl2
              refine next_i (j + 1, l ++ putN (getE tN g j)) ⟨hj', by dsimp only; rw [flat_snoc hj', hl]; rfl⟩ (by dsimp only; omega) rfl rfl ?_
              subst hl2
              conv => whnf
              refine ⟨rfl, leaf_i ?_⟩
              repeat' ((with_reducible refine And.intro ?_ ?_) <;> (try (conv => whnf)))
              all_goals (try (first | with_reducible rfl | exact True.intro | rfl | exact id | exact fun h => h | exact fun _ => rfl))
              all_goals first | rfl | (exact wrapS (by (try dsimp only); omega))
        · have hj' : g.length ≤ j := lt_f (by assumption)
          rw [List.take_of_length_le hj'] at hl
          all_goals ((with_reducible refine leaf_i ?_); (conv => whnf))
          repeat' ((with_reducible refine And.intro ?_ ?_) <;> (try (conv => whnf)))
          all_goals (try (first | with_reducible rfl | exact True.intro | rfl | exact id | exact fun h => h | exact fun _ => rfl))
          all_goals (rw [hG]; try exact hl)

end Go.Proofs.Ytjikhbdpkddbgaa
