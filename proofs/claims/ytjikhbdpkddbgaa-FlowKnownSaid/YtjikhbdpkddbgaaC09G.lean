/- The document's functions of layer 9: may, To, Same. -/
import Derived.Test.YtjikhbdpkddbgaaP09S
import Derived.Test.YtjikhbdpkddbgaaTy
namespace Go.Proofs.Ytjikhbdpkddbgaa
set_option linter.unusedVariables false
set_option linter.unusedSimpArgs false
open Go Go.RowKit Go.Proofs.Ytjikhbdpkddbgaa.Eng

def fitG (g : List Nd) : Prop := g.length < 4611686018427387904 ∧ ∀ x : Nd, x ∈ g → (Nd.ins x).length < 4611686018427387904
def k_rto : Sig := .arg (shR tN) fun g => .arg shI fun i => .done { pre := (toG g i).length ≤ 1000000000 ∧ fitG g, res := .rl true tP (toG g i) }

set_option maxHeartbeats 4000000 in
theorem c_rto : FnOk Try.prog 23 k_rto.con := by
  refine fnOkS mixed tys_ok (cs := []) trivial Try.func23 rfl (by kernel_rfl) Try.ntmps23 _ (h := ?_)
  intro g i
  refine ⟨rfl, fun hp => ?_⟩
  obtain ⟨hp1, hp2, hp3⟩ := hp
  conv => whnf
  repeat' ((first
    | with_reducible refine ⟨fun h => h, ?_⟩
    | with_reducible refine ⟨pk1, ?_⟩
    | with_reducible refine ⟨pk2, ?_⟩
    | with_reducible refine ⟨pk3, ?_⟩
    | with_reducible refine ⟨pk4, ?_⟩
    | with_reducible refine ⟨pk5, ?_⟩
    | with_reducible refine ⟨pk6, ?_⟩
    | with_reducible refine ⟨trivial, ?_⟩
    | with_reducible refine ⟨fun _ => trivial, ?_⟩
    | with_reducible refine fork_t (by assumption) ?_
    | with_reducible refine fork_f (by assumption) ?_
    | refine fork_t rfl ?_
    | refine fork_f rfl ?_
    | with_reducible refine fork_i (fun h => ?_) (fun h => ?_)
    | with_reducible refine both_i ?_ ?_
    | ((with_reducible refine alike_i ?_); exact ⟨rfl, rfl, rfl⟩)
    | ((with_reducible refine fin_i ?_); (conv => whnf); refine ⟨rfl, ?_⟩)
    | refine ⟨of_decide_eq_true rfl, ?_⟩
    | refine ⟨fun _ => of_decide_eq_true rfl, ?_⟩
    | ((with_reducible refine ⟨?_, ?_⟩); (focus (intros; simp_all; done)))
    | ((with_reducible refine ⟨?_, ?_⟩); (focus (intros; omega)))) <;> (try (conv => whnf)))
  refine looped (σ := Nat × List (El tP)) (fun x => [(6, I x.1), (5, .ow 0 2 x.2.length)]) (fun x => [.row true tP 45 x.2]) (fun x => x.1 ≤ g.length ∧ x.2 ++ toOut i x.1 (g.drop x.1) = toG g i) (fun x => g.length - x.1) (0, []) ⟨Nat.zero_le _, rfl⟩ ?_ ?_
  · conv => whnf
    refine ⟨rfl, leaf_i ?_⟩
    repeat' ((with_reducible refine And.intro ?_ ?_) <;> (try (conv => whnf)))
    all_goals (try (first | with_reducible rfl | exact True.intro | rfl | exact id | exact fun h => h | exact fun _ => rfl))
  · rintro ⟨j, l⟩ ⟨hj, hl⟩
    dsimp only at hj hl
    conv => whnf
    repeat' ((first
      | with_reducible refine ⟨fun h => h, ?_⟩
      | with_reducible refine ⟨pk1, ?_⟩
      | with_reducible refine ⟨pk2, ?_⟩
      | with_reducible refine ⟨pk3, ?_⟩
      | with_reducible refine ⟨pk4, ?_⟩
      | with_reducible refine ⟨pk5, ?_⟩
      | with_reducible refine ⟨pk6, ?_⟩
      | with_reducible refine ⟨trivial, ?_⟩
      | with_reducible refine ⟨fun _ => trivial, ?_⟩
      | with_reducible refine fork_t (by assumption) ?_
      | with_reducible refine fork_f (by assumption) ?_
      | refine fork_t rfl ?_
      | refine fork_f rfl ?_
      | with_reducible refine fork_i (fun h => ?_) (fun h => ?_)
      | with_reducible refine both_i ?_ ?_
      | ((with_reducible refine alike_i ?_); exact ⟨rfl, rfl, rfl⟩)
      | ((with_reducible refine fin_i ?_); (conv => whnf); refine ⟨rfl, ?_⟩)
      | refine ⟨of_decide_eq_true rfl, ?_⟩
      | refine ⟨fun _ => of_decide_eq_true rfl, ?_⟩
      | ((with_reducible refine ⟨?_, ?_⟩); (focus (intros; simp_all; done)))
      | ((with_reducible refine ⟨?_, ?_⟩); (focus (intros; omega)))) <;> (try (conv => whnf)))
    · have hj' : j < g.length := lt_t (by assumption)
      have hm := getE_mem g hj'
      have hn := hp3 _ hm
      rw [drop_get g hj'] at hl
      refine looped (σ := Nat × List (El tP)) (fun x => [(7, I x.1), (5, .ow 0 2 x.2.length)]) (fun x => [.row true tP 45 x.2]) (fun x => x.1 ≤ (Nd.ins (getE tN g j)).length ∧ x.2 ++ (toIn j i x.1 ((Nd.ins (getE tN g j)).drop x.1) ++ toOut i (j + 1) (g.drop (j + 1))) = toG g i) (fun x => (Nd.ins (getE tN g j)).length - x.1) (0, l) ⟨Nat.zero_le _, hl⟩ ?_ ?_
      · conv => whnf
        refine ⟨rfl, leaf_i ?_⟩
        repeat' ((with_reducible refine And.intro ?_ ?_) <;> (try (conv => whnf)))
        all_goals (try (first | with_reducible rfl | exact True.intro | rfl | exact id | exact fun h => h | exact fun _ => rfl))
      · rintro ⟨k, l⟩ ⟨hk, hl⟩
        dsimp only at hk hl
        conv => whnf
        repeat' ((first
          | with_reducible refine ⟨fun h => h, ?_⟩
          | with_reducible refine ⟨pk1, ?_⟩
          | with_reducible refine ⟨pk2, ?_⟩
          | with_reducible refine ⟨pk3, ?_⟩
          | with_reducible refine ⟨pk4, ?_⟩
          | with_reducible refine ⟨pk5, ?_⟩
          | with_reducible refine ⟨pk6, ?_⟩
          | with_reducible refine ⟨trivial, ?_⟩
          | with_reducible refine ⟨fun _ => trivial, ?_⟩
          | with_reducible refine fork_t (by assumption) ?_
          | with_reducible refine fork_f (by assumption) ?_
          | refine fork_t rfl ?_
          | refine fork_f rfl ?_
          | with_reducible refine fork_i (fun h => ?_) (fun h => ?_)
          | with_reducible refine both_i ?_ ?_
          | ((with_reducible refine alike_i ?_); exact ⟨rfl, rfl, rfl⟩)
          | ((with_reducible refine fin_i ?_); (conv => whnf); refine ⟨rfl, ?_⟩)
          | refine ⟨of_decide_eq_true rfl, ?_⟩
          | refine ⟨fun _ => of_decide_eq_true rfl, ?_⟩
          | ((with_reducible refine ⟨?_, ?_⟩); (focus (intros; simp_all; done)))
          | ((with_reducible refine ⟨?_, ?_⟩); (focus (intros; omega)))) <;> (try (conv => whnf)))
        · have hk' : k < (Nd.ins (getE tN g j)).length := lt_t (by assumption)
          have hx : (getE tI (Nd.ins (getE tN g j)) k).1 = i := beq_t (by assumption)
          rw [drop_get _ hk', toIn, if_pos hx] at hl
          refine ⟨?_, ?_⟩
          · have := congrArg List.length hl
            simp only [List.length_append, List.length_cons, List.length_nil] at this ⊢
            omega
          (conv => whnf)
          conv => whnf
          repeat' ((first
            | with_reducible refine ⟨fun h => h, ?_⟩
            | with_reducible refine ⟨pk1, ?_⟩
            | with_reducible refine ⟨pk2, ?_⟩
            | with_reducible refine ⟨pk3, ?_⟩
            | with_reducible refine ⟨pk4, ?_⟩
            | with_reducible refine ⟨pk5, ?_⟩
            | with_reducible refine ⟨pk6, ?_⟩
            | with_reducible refine ⟨trivial, ?_⟩
            | with_reducible refine ⟨fun _ => trivial, ?_⟩
            | with_reducible refine fork_t (by assumption) ?_
            | with_reducible refine fork_f (by assumption) ?_
            | refine fork_t rfl ?_
            | refine fork_f rfl ?_
            | with_reducible refine fork_i (fun h => ?_) (fun h => ?_)
            | with_reducible refine both_i ?_ ?_
            | ((with_reducible refine alike_i ?_); exact ⟨rfl, rfl, rfl⟩)
            | ((with_reducible refine fin_i ?_); (conv => whnf); refine ⟨rfl, ?_⟩)
            | refine ⟨of_decide_eq_true rfl, ?_⟩
            | refine ⟨fun _ => of_decide_eq_true rfl, ?_⟩
            | ((with_reducible refine ⟨?_, ?_⟩); (focus (intros; simp_all; done)))
            | ((with_reducible refine ⟨?_, ?_⟩); (focus (intros; omega)))) <;> (try (conv => whnf)))
          refine next_i (k + 1, l ++ [((j : Int), (k : Int), ())]) ⟨hk', by simpa using hl⟩ (by dsimp only; omega) rfl rfl ?_
          conv => whnf
          refine ⟨rfl, leaf_i ?_⟩
          repeat' ((with_reducible refine And.intro ?_ ?_) <;> (try (conv => whnf)))
          all_goals (try (first | with_reducible rfl | exact True.intro | rfl | exact id | exact fun h => h | exact fun _ => rfl))
          all_goals (try (first | rfl | exact wrapS (by dsimp only; omega)))
        · have hk' : k < (Nd.ins (getE tN g j)).length := lt_t (by assumption)
          have hx : ¬ (getE tI (Nd.ins (getE tN g j)) k).1 = i := beq_f (by assumption)
          rw [drop_get _ hk', toIn, if_neg hx] at hl
          refine next_i (k + 1, l) ⟨hk', by simpa using hl⟩ (by dsimp only; omega) rfl rfl ?_
          conv => whnf
          refine ⟨rfl, leaf_i ?_⟩
          repeat' ((with_reducible refine And.intro ?_ ?_) <;> (try (conv => whnf)))
          all_goals (try (first | with_reducible rfl | exact True.intro | rfl | exact id | exact fun h => h | exact fun _ => rfl))
          all_goals (try (first | rfl | exact wrapS (by dsimp only; omega)))
        · have hk' : (Nd.ins (getE tN g j)).length ≤ k := lt_f (by assumption)
          rw [List.drop_eq_nil_of_le hk', toIn, List.nil_append] at hl
          refine next_i (j + 1, l) ⟨hj', hl⟩ (by dsimp only; omega) rfl rfl ?_
          conv => whnf
          refine ⟨rfl, leaf_i ?_⟩
          repeat' ((with_reducible refine And.intro ?_ ?_) <;> (try (conv => whnf)))
          all_goals (try (first | with_reducible rfl | exact True.intro | rfl | exact id | exact fun h => h | exact fun _ => rfl))
          all_goals (try (first | rfl | exact wrapS (by dsimp only; omega)))
    · have hj' : g.length ≤ j := lt_f (by assumption)
      rw [List.drop_eq_nil_of_le hj', toOut, List.append_nil] at hl
      all_goals ((with_reducible refine leaf_i ?_); (conv => whnf))
      repeat' ((with_reducible refine And.intro ?_ ?_) <;> (try (conv => whnf)))
      all_goals (try (first | with_reducible rfl | exact True.intro | rfl | exact id | exact fun h => h | exact fun _ => rfl))
      all_goals exact hl

def k_rsame : Sig := .arg (shR tN) fun a => .arg (shR tN) fun b => .done { pre := fitG a, res := B (eqG a b) }
set_option maxRecDepth 100000 in
set_option maxHeartbeats 4000000 in
theorem c_rsame : FnOk Try.prog 17 k_rsame.con := by
  refine fnOkS mixed tys_ok (cs := []) trivial Try.func17 rfl (by kernel_rfl) Try.ntmps17 _ (h := ?_)
  intro l m
  refine ⟨rfl, fun hp => ?_⟩
  obtain ⟨hp1, hp2⟩ := hp
  conv => whnf
  repeat' ((first
    | with_reducible refine ⟨fun h => h, ?_⟩
    | with_reducible refine ⟨pk1, ?_⟩
    | with_reducible refine ⟨pk2, ?_⟩
    | with_reducible refine ⟨pk3, ?_⟩
    | with_reducible refine ⟨pk4, ?_⟩
    | with_reducible refine ⟨pk5, ?_⟩
    | with_reducible refine ⟨pk6, ?_⟩
    | with_reducible refine ⟨trivial, ?_⟩
    | with_reducible refine ⟨fun _ => trivial, ?_⟩
    | with_reducible refine fork_t (by assumption) ?_
    | with_reducible refine fork_f (by assumption) ?_
    | refine fork_t rfl ?_
    | refine fork_f rfl ?_
    | with_reducible refine fork_i (fun h => ?_) (fun h => ?_)
    | with_reducible refine both_i ?_ ?_
    | ((with_reducible refine alike_i ?_); exact ⟨rfl, rfl, rfl⟩)
    | ((with_reducible refine fin_i ?_); (conv => whnf); refine ⟨rfl, ?_⟩)
    | refine ⟨of_decide_eq_true rfl, ?_⟩
    | refine ⟨fun _ => of_decide_eq_true rfl, ?_⟩
    | ((with_reducible refine ⟨?_, ?_⟩); (focus (intros; simp_all; done)))
    | ((with_reducible refine ⟨?_, ?_⟩); (focus (intros; omega)))) <;> (try (conv => whnf)))
  · have hn : l.length ≠ m.length := bnl_t h
    all_goals ((with_reducible refine leaf_i ?_); (conv => whnf))
    repeat' ((with_reducible refine And.intro ?_ ?_) <;> (try (conv => whnf)))
    all_goals (try (first | with_reducible rfl | exact True.intro | rfl | exact id | exact fun h => h | exact fun _ => rfl))
    all_goals (rw [eqG_len hn])
  · have hn : l.length = m.length := bnl_f h
    refine looped (σ := Nat) (fun j => [(5, I j)]) (fun _ => []) (fun j => j ≤ l.length ∧ eqG (l.drop j) (m.drop j) = eqG l m) (fun j => l.length - j) 0 ⟨Nat.zero_le _, rfl⟩ ?_ ?_
    · conv => whnf
      refine ⟨rfl, leaf_i ?_⟩
      repeat' ((with_reducible refine And.intro ?_ ?_) <;> (try (conv => whnf)))
      all_goals (try (first | with_reducible rfl | exact True.intro | rfl | exact id | exact fun h => h | exact fun _ => rfl))
    · rintro j ⟨hj, hl⟩
      conv => whnf
      repeat' ((first
        | with_reducible refine ⟨fun h => h, ?_⟩
        | with_reducible refine ⟨pk1, ?_⟩
        | with_reducible refine ⟨pk2, ?_⟩
        | with_reducible refine ⟨pk3, ?_⟩
        | with_reducible refine ⟨pk4, ?_⟩
        | with_reducible refine ⟨pk5, ?_⟩
        | with_reducible refine ⟨pk6, ?_⟩
        | with_reducible refine ⟨trivial, ?_⟩
        | with_reducible refine ⟨fun _ => trivial, ?_⟩
        | with_reducible refine fork_t (by assumption) ?_
        | with_reducible refine fork_f (by assumption) ?_
        | refine fork_t rfl ?_
        | refine fork_f rfl ?_
        | with_reducible refine fork_i (fun h => ?_) (fun h => ?_)
        | with_reducible refine both_i ?_ ?_
        | ((with_reducible refine alike_i ?_); exact ⟨rfl, rfl, rfl⟩)
        | ((with_reducible refine fin_i ?_); (conv => whnf); refine ⟨rfl, ?_⟩)
        | refine ⟨of_decide_eq_true rfl, ?_⟩
        | refine ⟨fun _ => of_decide_eq_true rfl, ?_⟩
        | ((with_reducible refine ⟨?_, ?_⟩); (focus (intros; simp_all; done)))
        | ((with_reducible refine ⟨?_, ?_⟩); (focus (intros; omega)))) <;> (try (conv => whnf)))
      · have hj' : j < l.length := lt_t (by assumption)
        have hx := neH_t (x := getE tN l j) (y := getE tN m j) h
        rw [eqG_step hj' (by omega), hx] at hl
        all_goals ((with_reducible refine leaf_i ?_); (conv => whnf))
        repeat' ((with_reducible refine And.intro ?_ ?_) <;> (try (conv => whnf)))
        all_goals (try (first | with_reducible rfl | exact True.intro | rfl | exact id | exact fun h => h | exact fun _ => rfl))
        all_goals (rw [← hl]; rfl)
      · have hj' : j < l.length := lt_t (by assumption)
        obtain ⟨hx1, hx2⟩ := neH_f (x := getE tN l j) (y := getE tN m j) h
        rw [eqG_step hj' (by omega), hx1] at hl
        have hx3 := hp2 _ (getE_mem l hj')
        refine kept [6, 7] ?_
        (conv => whnf)
        refine looped (σ := Nat) (fun k => [(8, I k)]) (fun _ => [.cells (ndC false (getE tN l j)), .cells (ndC false (getE tN m j))]) (fun k => k ≤ (Nd.ins (getE tN l j)).length ∧ eqI ((Nd.ins (getE tN l j)).drop k) ((Nd.ins (getE tN m j)).drop k) = eqI (Nd.ins (getE tN l j)) (Nd.ins (getE tN m j))) (fun k => (Nd.ins (getE tN l j)).length - k) 0 ⟨Nat.zero_le _, rfl⟩ ?_ ?_
        · conv => whnf
          refine ⟨rfl, leaf_i ?_⟩
          repeat' ((with_reducible refine And.intro ?_ ?_) <;> (try (conv => whnf)))
          all_goals (try (first | with_reducible rfl | exact True.intro | rfl | exact id | exact fun h => h | exact fun _ => rfl))
        · rintro k ⟨hk, hi⟩
          conv => whnf
          repeat' ((first
            | with_reducible refine ⟨fun h => h, ?_⟩
            | with_reducible refine ⟨pk1, ?_⟩
            | with_reducible refine ⟨pk2, ?_⟩
            | with_reducible refine ⟨pk3, ?_⟩
            | with_reducible refine ⟨pk4, ?_⟩
            | with_reducible refine ⟨pk5, ?_⟩
            | with_reducible refine ⟨pk6, ?_⟩
            | with_reducible refine ⟨trivial, ?_⟩
            | with_reducible refine ⟨fun _ => trivial, ?_⟩
            | with_reducible refine fork_t (by assumption) ?_
            | with_reducible refine fork_f (by assumption) ?_
            | refine fork_t rfl ?_
            | refine fork_f rfl ?_
            | with_reducible refine fork_i (fun h => ?_) (fun h => ?_)
            | with_reducible refine both_i ?_ ?_
            | ((with_reducible refine alike_i ?_); exact ⟨rfl, rfl, rfl⟩)
            | ((with_reducible refine fin_i ?_); (conv => whnf); refine ⟨rfl, ?_⟩)
            | refine ⟨of_decide_eq_true rfl, ?_⟩
            | refine ⟨fun _ => of_decide_eq_true rfl, ?_⟩
            | ((with_reducible refine ⟨?_, ?_⟩); (focus (intros; simp_all; done)))
            | ((with_reducible refine ⟨?_, ?_⟩); (focus (intros; omega)))) <;> (try (conv => whnf)))
          · have hk' : k < (Nd.ins (getE tN l j)).length := lt_t (by assumption)
            have hx : (getE tI (Nd.ins (getE tN l j)) k).1 ≠ (getE tI (Nd.ins (getE tN m j)) k).1 := bne_t (by assumption)
            rw [eqI_step hk' (by omega), beq_eq_false_iff_ne.2 hx] at hi
            rw [← hi] at hl
            all_goals ((with_reducible refine leaf_i ?_); (conv => whnf))
            repeat' ((with_reducible refine And.intro ?_ ?_) <;> (try (conv => whnf)))
            all_goals (try (first | with_reducible rfl | exact True.intro | rfl | exact id | exact fun h => h | exact fun _ => rfl))
            all_goals (rw [← hl]; rfl)
          · have hk' : k < (Nd.ins (getE tN l j)).length := lt_t (by assumption)
            have hx : (getE tI (Nd.ins (getE tN l j)) k).1 = (getE tI (Nd.ins (getE tN m j)) k).1 := bne_f (by assumption)
            rw [eqI_step hk' (by omega), beq_iff_eq.2 hx, Bool.true_and] at hi
            refine next_i (k + 1) ⟨hk', hi⟩ (by omega) rfl rfl ?_
            conv => whnf
            refine ⟨rfl, leaf_i ?_⟩
            repeat' ((with_reducible refine And.intro ?_ ?_) <;> (try (conv => whnf)))
            all_goals (try (first | with_reducible rfl | exact True.intro | rfl | exact id | exact fun h => h | exact fun _ => rfl))
            all_goals exact wrapS (Nat.lt_trans hk' hx3)
          · have hk' : (Nd.ins (getE tN l j)).length ≤ k := lt_f (by assumption)
            rw [eqI_end hk' (by omega)] at hi
            rw [← hi, Bool.true_and] at hl
            refine next_i (j + 1) ⟨hj', hl⟩ (by omega) rfl rfl ?_
            conv => whnf
            refine ⟨rfl, leaf_i ?_⟩
            repeat' ((with_reducible refine And.intro ?_ ?_) <;> (try (conv => whnf)))
            all_goals (try (first | with_reducible rfl | exact True.intro | rfl | exact id | exact fun h => h | exact fun _ => rfl))
            all_goals exact wrapS (Nat.lt_trans hj' hp1)
      · have hj' : l.length ≤ j := lt_f (by assumption)
        rw [eqG_end hj' (by omega)] at hl
        all_goals ((with_reducible refine leaf_i ?_); (conv => whnf))
        repeat' ((with_reducible refine And.intro ?_ ?_) <;> (try (conv => whnf)))
        all_goals (try (first | with_reducible rfl | exact True.intro | rfl | exact id | exact fun h => h | exact fun _ => rfl))
        all_goals (rw [← hl])

def k_rmay : Sig := .arg (shR tN) fun g => .done { pre := fitG g, res := B (mayG g) }
set_option maxRecDepth 100000 in
set_option maxHeartbeats 4000000 in
theorem c_rmay : FnOk Try.prog 28 k_rmay.con := by
  refine fnOkS mixed tys_ok (cs := []) trivial Try.func28 rfl (by kernel_rfl) Try.ntmps28 _ (h := ?_)
  intro g
  refine ⟨rfl, fun hp => ?_⟩
  obtain ⟨hp1, hp2⟩ := hp
  conv => whnf
  repeat' ((first
    | with_reducible refine ⟨fun h => h, ?_⟩
    | with_reducible refine ⟨pk1, ?_⟩
    | with_reducible refine ⟨pk2, ?_⟩
    | with_reducible refine ⟨pk3, ?_⟩
    | with_reducible refine ⟨pk4, ?_⟩
    | with_reducible refine ⟨pk5, ?_⟩
    | with_reducible refine ⟨pk6, ?_⟩
    | with_reducible refine ⟨trivial, ?_⟩
    | with_reducible refine ⟨fun _ => trivial, ?_⟩
    | with_reducible refine fork_t (by assumption) ?_
    | with_reducible refine fork_f (by assumption) ?_
    | refine fork_t rfl ?_
    | refine fork_f rfl ?_
    | with_reducible refine fork_i (fun h => ?_) (fun h => ?_)
    | with_reducible refine both_i ?_ ?_
    | ((with_reducible refine alike_i ?_); exact ⟨rfl, rfl, rfl⟩)
    | ((with_reducible refine fin_i ?_); (conv => whnf); refine ⟨rfl, ?_⟩)
    | refine ⟨of_decide_eq_true rfl, ?_⟩
    | refine ⟨fun _ => of_decide_eq_true rfl, ?_⟩
    | ((with_reducible refine ⟨?_, ?_⟩); (focus (intros; simp_all; done)))
    | ((with_reducible refine ⟨?_, ?_⟩); (focus (intros; omega)))) <;> (try (conv => whnf)))
  refine looped (σ := Nat) (fun j => [(3, I j)]) (fun _ => []) (fun j => j ≤ g.length ∧ (g.drop j).all mayN = g.all mayN) (fun j => g.length - j) 0 ⟨Nat.zero_le _, rfl⟩ ?_ ?_
  · conv => whnf
    refine ⟨rfl, leaf_i ?_⟩
    repeat' ((with_reducible refine And.intro ?_ ?_) <;> (try (conv => whnf)))
    all_goals (try (first | with_reducible rfl | exact True.intro | rfl | exact id | exact fun h => h | exact fun _ => rfl))
  · rintro j ⟨hj, hl⟩
    conv => whnf
    repeat' ((first
      | with_reducible refine ⟨fun h => h, ?_⟩
      | with_reducible refine ⟨pk1, ?_⟩
      | with_reducible refine ⟨pk2, ?_⟩
      | with_reducible refine ⟨pk3, ?_⟩
      | with_reducible refine ⟨pk4, ?_⟩
      | with_reducible refine ⟨pk5, ?_⟩
      | with_reducible refine ⟨pk6, ?_⟩
      | with_reducible refine ⟨trivial, ?_⟩
      | with_reducible refine ⟨fun _ => trivial, ?_⟩
      | with_reducible refine fork_t (by assumption) ?_
      | with_reducible refine fork_f (by assumption) ?_
      | refine fork_t rfl ?_
      | refine fork_f rfl ?_
      | with_reducible refine fork_i (fun h => ?_) (fun h => ?_)
      | with_reducible refine both_i ?_ ?_
      | ((with_reducible refine alike_i ?_); exact ⟨rfl, rfl, rfl⟩)
      | ((with_reducible refine fin_i ?_); (conv => whnf); refine ⟨rfl, ?_⟩)
      | refine ⟨of_decide_eq_true rfl, ?_⟩
      | refine ⟨fun _ => of_decide_eq_true rfl, ?_⟩
      | ((with_reducible refine ⟨?_, ?_⟩); (focus (intros; simp_all; done)))
      | ((with_reducible refine ⟨?_, ?_⟩); (focus (intros; omega)))) <;> (try (conv => whnf)))
    · have hj' : j < g.length := lt_t (by assumption)
      have hx := maH_t (n := getE tN g j) h
      rw [drop_get g hj', List.all_cons, hx, Bool.false_and] at hl
      all_goals ((with_reducible refine leaf_i ?_); (conv => whnf))
      repeat' ((with_reducible refine And.intro ?_ ?_) <;> (try (conv => whnf)))
      all_goals (try (first | with_reducible rfl | exact True.intro | rfl | exact id | exact fun h => h | exact fun _ => rfl))
      all_goals (unfold mayG; rw [← hl]; rfl)
    · have hj' : j < g.length := lt_t (by assumption)
      have hx := maH_f (n := getE tN g j) h
      rw [drop_get g hj', List.all_cons, hx] at hl
      have hx3 := hp2 _ (getE_mem g hj')
      refine looped (σ := Nat) (fun k => [(4, I k)]) (fun _ => []) (fun k => k ≤ (Nd.ins (getE tN g j)).length ∧ ((Nd.ins (getE tN g j)).drop k).any (fun x => wrongI x.1) = (Nd.ins (getE tN g j)).any fun x => wrongI x.1) (fun k => (Nd.ins (getE tN g j)).length - k) 0 ⟨Nat.zero_le _, rfl⟩ ?_ ?_
      · conv => whnf
        refine ⟨rfl, leaf_i ?_⟩
        repeat' ((with_reducible refine And.intro ?_ ?_) <;> (try (conv => whnf)))
        all_goals (try (first | with_reducible rfl | exact True.intro | rfl | exact id | exact fun h => h | exact fun _ => rfl))
      · rintro k ⟨hk, hi⟩
        conv => whnf
        repeat' ((first
          | with_reducible refine ⟨fun h => h, ?_⟩
          | with_reducible refine ⟨pk1, ?_⟩
          | with_reducible refine ⟨pk2, ?_⟩
          | with_reducible refine ⟨pk3, ?_⟩
          | with_reducible refine ⟨pk4, ?_⟩
          | with_reducible refine ⟨pk5, ?_⟩
          | with_reducible refine ⟨pk6, ?_⟩
          | with_reducible refine ⟨trivial, ?_⟩
          | with_reducible refine ⟨fun _ => trivial, ?_⟩
          | with_reducible refine fork_t (by assumption) ?_
          | with_reducible refine fork_f (by assumption) ?_
          | refine fork_t rfl ?_
          | refine fork_f rfl ?_
          | with_reducible refine fork_i (fun h => ?_) (fun h => ?_)
          | with_reducible refine both_i ?_ ?_
          | ((with_reducible refine alike_i ?_); exact ⟨rfl, rfl, rfl⟩)
          | ((with_reducible refine fin_i ?_); (conv => whnf); refine ⟨rfl, ?_⟩)
          | refine ⟨of_decide_eq_true rfl, ?_⟩
          | refine ⟨fun _ => of_decide_eq_true rfl, ?_⟩
          | ((with_reducible refine ⟨?_, ?_⟩); (focus (intros; simp_all; done)))
          | ((with_reducible refine ⟨?_, ?_⟩); (focus (intros; omega)))) <;> (try (conv => whnf)))
        · have hk' : k < (Nd.ins (getE tN g j)).length := lt_t (by assumption)
          rw [wr_any hk' h hi] at hl
          all_goals ((with_reducible refine leaf_i ?_); (conv => whnf))
          repeat' ((with_reducible refine And.intro ?_ ?_) <;> (try (conv => whnf)))
          all_goals (try (first | with_reducible rfl | exact True.intro | rfl | exact id | exact fun h => h | exact fun _ => rfl))
          all_goals (unfold mayG; rw [← hl]; rfl)
        · have hk' : k < (Nd.ins (getE tN g j)).length := lt_t (by assumption)
          have hw : wrongI (getE tI (Nd.ins (getE tN g j)) k).1 = false := (wr_eq _).symm.trans h
          rw [drop_get _ hk', List.any_cons, hw, Bool.false_or] at hi
          refine next_i (k + 1) ⟨hk', hi⟩ (by omega) rfl rfl ?_
          conv => whnf
          refine ⟨rfl, leaf_i ?_⟩
          repeat' ((with_reducible refine And.intro ?_ ?_) <;> (try (conv => whnf)))
          all_goals (try (first | with_reducible rfl | exact True.intro | rfl | exact id | exact fun h => h | exact fun _ => rfl))
          all_goals exact wrapS (Nat.lt_trans hk' hx3)
        · have hk' : (Nd.ins (getE tN g j)).length ≤ k := lt_f (by assumption)
          rw [List.drop_eq_nil_of_le hk', List.any_nil] at hi
          rw [← hi, Bool.not_false, Bool.true_and] at hl
          refine next_i (j + 1) ⟨hj', hl⟩ (by omega) rfl rfl ?_
          conv => whnf
          refine ⟨rfl, leaf_i ?_⟩
          repeat' ((with_reducible refine And.intro ?_ ?_) <;> (try (conv => whnf)))
          all_goals (try (first | with_reducible rfl | exact True.intro | rfl | exact id | exact fun h => h | exact fun _ => rfl))
          all_goals exact wrapS (Nat.lt_trans hj' hp1)
    · have hj' : g.length ≤ j := lt_f (by assumption)
      rw [List.drop_eq_nil_of_le hj', List.all_nil] at hl
      all_goals ((with_reducible refine leaf_i ?_); (conv => whnf))
      repeat' ((with_reducible refine And.intro ?_ ?_) <;> (try (conv => whnf)))
      all_goals (try (first | with_reducible rfl | exact True.intro | rfl | exact id | exact fun h => h | exact fun _ => rfl))
      all_goals (unfold mayG; rw [← hl, Bool.true_and, Bool.cond_false_right])
end Go.Proofs.Ytjikhbdpkddbgaa
