/- Parts of the proof, joined: no conditions of their own. -/
import Derived.Test.YtbgcgokikekmoaaG06
import Derived.Test.YtbgcgokikekmoaaG09
/- Layer 10: the least node that is stuck. -/
namespace Go.Proofs.Ytbgcgokikekmoaa
set_option linter.unusedVariables false
set_option linter.unusedSimpArgs false
set_option maxRecDepth 100000
open Go Go.RowKit Go.Proofs.Ytbgcgokikekmoaa.Eng

theorem sq_ways {g : List Nd} {least : Int} : sqU g.length g.length (waysG g least) := sqU_stK (sqU_wA g.length (Nat.le_refl _)) g.length
theorem stuckG_eq (g : List Nd) : stuckG g = stW g 4 := rfl
theorem stW_s (g : List Nd) (k : Nat) : stW g (k + 1) = stL g k (stW g k) (stW g k) 0 := rfl
theorem stL_s (g : List Nd) (k a f i : Nat) : stL g k a (f + 1) i = if backI g k i = true then i else stL g k a f (i + 1) := rfl
theorem stL_0 (g : List Nd) (k a i : Nat) : stL g k a 0 i = a := rfl
theorem stW_0 (g : List Nd) : stW g 0 = g.length := rfl
theorem backI_eq (g : List Nd) (least i : Nat) : backI g least i = hasP (backB g least (waysG g least) i) (plN g.length) := rfl
attribute [local irreducible] stuckG stW stL backI waysG
def k_stuck : Sig := .arg (shR tN) fun g => .done { pre := few g, res := I (stuckG g : Nat) }
set_option maxHeartbeats 4000000 in
theorem c_stuck : FnOk Try.prog 31 k_stuck.con := by
  refine fnOkS mixed tys_ok (cs := [(45, k_ways.con), (47, k_places.con), (42, k_hstuck1.con)]) ⟨c_ways, c_places, c_hstuck1, trivial⟩ Try.func31 rfl (by kernel_rfl) Try.ntmps31 _ (h := ?_)
  intro g
  refine ⟨rfl, fun hp => ?_⟩
  have hp : few g := hp
  have hg := hp.1
  conv => whnf
  repeat' ((first
    | with_reducible refine ⟨fun h => h, ?_⟩
    | with_reducible refine ⟨pk1, ?_⟩
    | with_reducible refine ⟨pk2, ?_⟩
    | with_reducible refine ⟨pk3, ?_⟩
    | with_reducible refine ⟨pk4, ?_⟩
    | with_reducible refine ⟨pk5, ?_⟩
    | with_reducible refine ⟨pk6, ?_⟩
    | with_reducible refine ⟨trivial, ?_⟩
    | with_reducible refine ⟨fun _ => trivial, ?_⟩
    | with_reducible refine ⟨rfl, ?_⟩
    | with_reducible refine every_i (fun hd => ?_)
    | with_reducible refine fork_t (by assumption) ?_
    | with_reducible refine fork_f (by assumption) ?_
    | refine fork_t rfl ?_
    | refine fork_f rfl ?_
    | with_reducible refine fork_i (fun h => ?_) (fun h => ?_)
    | with_reducible refine both_i ?_ ?_
    | ((with_reducible refine alike_i ?_); exact ⟨rfl, rfl, rfl⟩)
    | ((with_reducible refine fin_i ?_); (conv => whnf); refine ⟨rfl, ?_⟩)
    | refine ⟨of_decide_eq_true rfl, ?_⟩
    | refine ⟨fun _ => of_decide_eq_true rfl, ?_⟩
    | ((with_reducible refine ⟨?_, ?_⟩); (focus (intros; simp_all; done)))
    | ((with_reducible refine ⟨?_, ?_⟩); (focus (intros; omega)))) <;> (try (conv => whnf)))
  refine looped (σ := Nat × Nat) (fun x => [(10, I x.1), (3, I x.2)]) (fun x => [.cells (.cons (.rl false tN g) .nil)]) (fun x => x.1 ≤ 4 ∧ x.2 = stW g x.1) (fun x => 4 - x.1) (0, g.length) ⟨Nat.zero_le _, (stW_0 g).symm⟩ ?_ ?_
  · conv => whnf
    refine ⟨rfl, leaf_i ?_⟩
    repeat' ((with_reducible refine And.intro ?_ ?_) <;> (try (conv => whnf)))
    all_goals (try (first | with_reducible rfl | exact True.intro | rfl | exact id | exact fun h => h | exact fun _ => rfl))
  · rintro ⟨k, at_⟩ ⟨hk, ha⟩
    dsimp only at hk ha ⊢
    have hal : at_ ≤ g.length := by rw [ha]; exact stW_le k
    conv => whnf
    repeat' ((first
      | with_reducible refine ⟨fun h => h, ?_⟩
      | with_reducible refine ⟨pk1, ?_⟩
      | with_reducible refine ⟨pk2, ?_⟩
      | with_reducible refine ⟨pk3, ?_⟩
      | with_reducible refine ⟨pk4, ?_⟩
      | with_reducible refine ⟨pk5, ?_⟩
      | with_reducible refine ⟨pk6, ?_⟩
      | with_reducible refine ⟨trivial, ?_⟩
      | with_reducible refine ⟨fun _ => trivial, ?_⟩
      | with_reducible refine ⟨rfl, ?_⟩
      | with_reducible refine every_i (fun hd => ?_)
      | with_reducible refine fork_t (by assumption) ?_
      | with_reducible refine fork_f (by assumption) ?_
      | refine fork_t rfl ?_
      | refine fork_f rfl ?_
      | with_reducible refine fork_i (fun h => ?_) (fun h => ?_)
      | with_reducible refine both_i ?_ ?_
      | ((with_reducible refine alike_i ?_); exact ⟨rfl, rfl, rfl⟩)
      | ((with_reducible refine fin_i ?_); (conv => whnf); refine ⟨rfl, ?_⟩)
      | refine ⟨hp, ?_⟩
      | refine ⟨of_decide_eq_true rfl, ?_⟩
      | refine ⟨fun _ => of_decide_eq_true rfl, ?_⟩
      | ((with_reducible refine ⟨?_, ?_⟩); (focus (intros; simp_all; done)))
      | ((with_reducible refine ⟨?_, ?_⟩); (focus (intros; omega)))) <;> (try (conv => whnf)))
    · have hk' : k < 4 := by have := of_decide_eq_true h; omega
      have hs := sq_ways (g := g) (least := k)
      refine looped (σ := Nat) (fun i => [(17, I i), (3, I at_)]) (fun x => [.cells (.cons (.rl false tN g) .nil), .cells (.cons (I k) .nil), .cells (.cons (.rl true tBB (waysG g k)) .nil)]) (fun i => i ≤ at_ ∧ stL g k at_ (at_ - i) i = stL g k at_ at_ 0) (fun i => at_ - i) 0 ⟨Nat.zero_le _, rfl⟩ ?_ ?_
      · conv => whnf
        refine ⟨rfl, leaf_i ?_⟩
        repeat' ((with_reducible refine And.intro ?_ ?_) <;> (try (conv => whnf)))
        all_goals (try (first | with_reducible rfl | exact True.intro | rfl | exact id | exact fun h => h | exact fun _ => rfl))
      · rintro i ⟨hi, hst⟩
        dsimp only at hi hst ⊢
        have hpl : g.length < 1000000000 := by omega
        have hbk : decide ((i : Int) < (at_ : Int)) = true → (plN g.length).length < 4611686018427387904 ∧ ∀ x ∈ plN g.length, backP g (waysG g k) i x.1 := fun h => by
          have hi' := lt_t h
          refine ⟨by rw [plN_len]; omega, fun x hx => ?_⟩
          obtain ⟨j, hj, e⟩ := plN_mem hx
          have r1 := hs.2 i (by omega)
          have r2 := hs.2 j hj
          unfold rowM at r1 r2
          rw [e]
          refine ⟨by omega, by omega, ⟨by omega, by rw [hs.1]; omega⟩, ⟨by omega, ?_⟩, ⟨by omega, by rw [hs.1]; omega⟩, ⟨by omega, ?_⟩, trivial⟩
          · rw [show ((i : Nat) : Int).toNat = i from rfl, r1]; omega
          · rw [show ((j : Nat) : Int).toNat = j from rfl, r2]; omega
        conv => whnf
        repeat' ((first
          | with_reducible refine ⟨fun h => h, ?_⟩
          | with_reducible refine ⟨pk1, ?_⟩
          | with_reducible refine ⟨pk2, ?_⟩
          | with_reducible refine ⟨pk3, ?_⟩
          | with_reducible refine ⟨pk4, ?_⟩
          | with_reducible refine ⟨pk5, ?_⟩
          | with_reducible refine ⟨pk6, ?_⟩
          | with_reducible refine ⟨trivial, ?_⟩
          | with_reducible refine ⟨fun _ => trivial, ?_⟩
          | with_reducible refine ⟨rfl, ?_⟩
          | with_reducible refine every_i (fun hd => ?_)
          | with_reducible refine fork_t (by assumption) ?_
          | with_reducible refine fork_f (by assumption) ?_
          | refine fork_t rfl ?_
          | refine fork_f rfl ?_
          | with_reducible refine fork_i (fun h => ?_) (fun h => ?_)
          | with_reducible refine both_i ?_ ?_
          | ((with_reducible refine alike_i ?_); exact ⟨rfl, rfl, rfl⟩)
          | ((with_reducible refine fin_i ?_); (conv => whnf); refine ⟨rfl, ?_⟩)
          | refine ⟨hpl, ?_⟩
          | refine ⟨hbk (by assumption), ?_⟩
          | refine ⟨of_decide_eq_true rfl, ?_⟩
          | refine ⟨fun _ => of_decide_eq_true rfl, ?_⟩
          | ((with_reducible refine ⟨?_, ?_⟩); (focus (intros; simp_all; done)))
          | ((with_reducible refine ⟨?_, ?_⟩); (focus (intros; omega)))) <;> (try (conv => whnf)))
        · have hi' : i < at_ := lt_t (by assumption)
          have hb : backI g k i = true := by rw [backI_eq]; exact h
          have hst2 : stL g k at_ (at_ - i) i = i := by
            rw [show at_ - i = (at_ - i - 1) + 1 by omega, stL_s, if_pos hb]
          refine next_i (k + 1, i) ⟨hk', by show i = stW g (k + 1); rw [stW_s, ← ha, ← hst, hst2]⟩ (by dsimp only; omega) rfl rfl ?_
          conv => whnf
          refine ⟨rfl, leaf_i ?_⟩
          repeat' ((with_reducible refine And.intro ?_ ?_) <;> (try (conv => whnf)))
          all_goals (try (first | with_reducible rfl | exact True.intro | rfl | exact id | exact fun h => h | exact fun _ => rfl))
          all_goals (try (first | rfl | exact wrapS (by omega)))
        · have hi' : i < at_ := lt_t (by assumption)
          have hb : ¬ backI g k i = true := fun hh => by rw [backI_eq] at hh; exact Bool.noConfusion (h.symm.trans hh)
          have hst2 : stL g k at_ (at_ - i) i = stL g k at_ (at_ - (i + 1)) (i + 1) := by
            rw [show at_ - i = (at_ - (i + 1)) + 1 by omega, stL_s, if_neg hb]
          refine next_i (i + 1) ⟨hi', by rw [← hst2, hst]⟩ (by omega) rfl rfl ?_
          conv => whnf
          refine ⟨rfl, leaf_i ?_⟩
          repeat' ((with_reducible refine And.intro ?_ ?_) <;> (try (conv => whnf)))
          all_goals (try (first | with_reducible rfl | exact True.intro | rfl | exact id | exact fun h => h | exact fun _ => rfl))
          all_goals (try (first | rfl | exact wrapS (by omega)))
        · have hi' := lt_f h
          rw [show at_ - i = 0 by omega] at hst
          refine next_i (k + 1, at_) ⟨hk', by show at_ = stW g (k + 1); rw [stW_s, ← ha, ← hst, stL_0]⟩ (by dsimp only; omega) rfl rfl ?_
          conv => whnf
          refine ⟨rfl, leaf_i ?_⟩
          repeat' ((with_reducible refine And.intro ?_ ?_) <;> (try (conv => whnf)))
          all_goals (try (first | with_reducible rfl | exact True.intro | rfl | exact id | exact fun h => h | exact fun _ => rfl))
          all_goals (try (first | rfl | exact wrapS (by omega)))
    · have hk' : k = 4 := by have := of_decide_eq_false h; omega
      subst hk'
      all_goals ((with_reducible refine leaf_i ?_); (conv => whnf))
      repeat' ((with_reducible refine And.intro ?_ ?_) <;> (try (conv => whnf)))
      all_goals (try (first | with_reducible rfl | exact True.intro | rfl | exact id | exact fun h => h | exact fun _ => rfl))
      all_goals (first | (rw [ha, stuckG_eq]; done) | trace_state)
end Go.Proofs.Ytbgcgokikekmoaa
