/- Parts of the proof, joined: no conditions of their own. -/
import Derived.Test.YtbgcgokikekmoaaG06
/- Layer 10: an order. -/
namespace Go.Proofs.Ytbgcgokikekmoaa
set_option linter.unusedVariables false
set_option linter.unusedSimpArgs false
set_option maxRecDepth 100000
open Go Go.RowKit Go.Proofs.Ytbgcgokikekmoaa.Eng

def cntF (th : List (El tB)) : Nat := th.countP fun x => !x.1
theorem cntF_rep (n : Nat) : cntF (falseR n) = n := by simp [cntF, falseR, List.countP_replicate]
theorem cntF_set : ∀ (th : List (El tB)) (i : Nat), i < th.length → (getE tB th i).1 = false → cntF (th.set i (true, ())) + 1 = cntF th
  | [], i, h, _ => absurd h (Nat.not_lt_zero _)
  | (b, _) :: r, 0, _, hb => by
    have hb : b = false := hb
    subst hb
    simp [cntF]
  | (b, u) :: r, i + 1, h, hb => by
    have := cntF_set r i (by simpa using h) hb
    unfold cntF at this ⊢
    simp only [List.set_cons_succ, List.countP_cons]
    omega
theorem ready_f {th : List (El tB)} {i : Nat} {n : Nd} (h : readyB th i n = true) : (getE tB th i).1 = false := by
  unfold readyB at h
  cases hb : (getE tB th i).1 with
  | false => rfl
  | true => rw [hb] at h; cases h
def inAll (g : List Nd) : Prop := ∀ n : Nd, n ∈ g → (Nd.ins n).length < 4611686018427387904 ∧ ∀ x ∈ Nd.ins n, 0 ≤ x.1 ∧ x.1 < (g.length : Int)
attribute [local irreducible] orderG hasP
theorem orderG_eq (g : List Nd) : orderG g = ordN g (g.length + 1) (falseR g.length) [] := by unfold orderG; rfl
def k_order : Sig := .arg (shR tN) fun g => .done { pre := g.length < 1000000 ∧ inAll g, res := .rl true tI (orderG g) }
set_option maxHeartbeats 4000000 in
theorem c_order : FnOk Try.prog 34 k_order.con := by
  refine fnOkS mixed tys_ok (cs := [(42, k_horder1.con)]) ⟨c_horder1, trivial⟩ Try.func34 rfl (by kernel_rfl) Try.ntmps34 _ (h := ?_)
  intro g
  refine ⟨rfl, fun hp => ?_⟩
  obtain ⟨hp1, hp2⟩ := hp
  conv => whnf
  repeat' ((first
    | with_reducible refine ⟨fun h => h, ?_⟩
    | with_reducible refine ⟨pk1, ?_⟩
    | with_reducible refine ⟨pk2, ?_⟩
    | with_reducible refine ⟨pk3, ?_⟩
    | with_reducible refine ⟨pk4, ?_⟩
    | with_reducible refine ⟨pk5, ?_⟩
    | with_reducible refine ⟨pk6, ?_⟩
    | with_reducible refine ⟨trivial, ?_⟩
    | with_reducible refine ⟨fun _ => trivial, ?_⟩
    | with_reducible refine ⟨rfl, ?_⟩
    | with_reducible refine every_i (fun hd => ?_)
    | with_reducible refine fork_t (by assumption) ?_
    | with_reducible refine fork_f (by assumption) ?_
    | refine fork_t rfl ?_
    | refine fork_f rfl ?_
    | with_reducible refine fork_i (fun h => ?_) (fun h => ?_)
    | with_reducible refine both_i ?_ ?_
    | ((with_reducible refine alike_i ?_); exact ⟨rfl, rfl, rfl⟩)
    | ((with_reducible refine fin_i ?_); (conv => whnf); refine ⟨rfl, ?_⟩)
    | refine ⟨of_decide_eq_true rfl, ?_⟩
    | refine ⟨fun _ => of_decide_eq_true rfl, ?_⟩
    | ((with_reducible refine ⟨?_, ?_⟩); (focus (intros; simp_all; done)))
    | ((with_reducible refine ⟨?_, ?_⟩); (focus (intros; omega)))) <;> (try (conv => whnf)))
  refine only [4, 3, 0, 2] ?_
  (conv => whnf)
  refine looped (σ := Bool × List (El tB) × List (El tI)) (fun x => [(6, B x.1), (5, .ow 2 1 x.2.2.length)]) (fun x => [.row true tB 4 x.2.1, .cells (.cons (.ow 0 1 g.length) .nil), .row true tI 3 x.2.2]) (fun x => x.2.1.length = g.length ∧ (x.1 = true → ordN g (cntF x.2.1 + 1) x.2.1 x.2.2 = orderG g) ∧ (x.1 = false → x.2.2 = orderG g) ∧ x.2.2.length + cntF x.2.1 = g.length) (fun x => 2 * cntF x.2.1 + (if x.1 = true then 1 else 0)) (true, falseR g.length, []) ⟨List.length_replicate, fun _ => (by show ordN g (cntF (falseR g.length) + 1) _ _ = _; rw [cntF_rep, orderG_eq]), fun h => Bool.noConfusion h, (by show 0 + cntF (falseR g.length) = _; rw [cntF_rep, Nat.zero_add])⟩ ?_ ?_
  · conv => whnf
    refine ⟨rfl, leaf_i ?_⟩
    repeat' ((with_reducible refine And.intro ?_ ?_) <;> (try (conv => whnf)))
    all_goals (try (first | with_reducible rfl | exact True.intro | rfl | exact id | exact fun h => h | exact fun _ => rfl))
  · rintro ⟨fd, th, out⟩ ⟨hl, h1, h2, h3⟩
    dsimp only at hl h1 h2 h3 ⊢
    conv => whnf
    repeat' ((first
      | with_reducible refine ⟨fun h => h, ?_⟩
      | with_reducible refine ⟨pk1, ?_⟩
      | with_reducible refine ⟨pk2, ?_⟩
      | with_reducible refine ⟨pk3, ?_⟩
      | with_reducible refine ⟨pk4, ?_⟩
      | with_reducible refine ⟨pk5, ?_⟩
      | with_reducible refine ⟨pk6, ?_⟩
      | with_reducible refine ⟨trivial, ?_⟩
      | with_reducible refine ⟨fun _ => trivial, ?_⟩
      | with_reducible refine ⟨rfl, ?_⟩
      | with_reducible refine every_i (fun hd => ?_)
      | with_reducible refine fork_t (by assumption) ?_
      | with_reducible refine fork_f (by assumption) ?_
      | refine fork_t rfl ?_
      | refine fork_f rfl ?_
      | with_reducible refine fork_i (fun h => ?_) (fun h => ?_)
      | with_reducible refine both_i ?_ ?_
      | ((with_reducible refine alike_i ?_); exact ⟨rfl, rfl, rfl⟩)
      | ((with_reducible refine fin_i ?_); (conv => whnf); refine ⟨rfl, ?_⟩)
      | refine ⟨of_decide_eq_true rfl, ?_⟩
      | refine ⟨fun _ => of_decide_eq_true rfl, ?_⟩
      | ((with_reducible refine ⟨?_, ?_⟩); (focus (intros; simp_all; done)))
      | ((with_reducible refine ⟨?_, ?_⟩); (focus (intros; omega)))) <;> (try (conv => whnf)))
    · have h1 := h1 h
      subst h
      refine only [15, 14, 4, 3, 0, 2] ?_
      (conv => whnf)
      refine looped (σ := Nat) (fun i => [(16, I i), (6, B false), (5, .ow 2 1 out.length)]) (fun x => [.row true tB 4 th, .cells (.cons (.ow 0 1 g.length) .nil), .row true tI 3 out]) (fun i => i ≤ g.length ∧ nextR th i (g.drop i) = nextR th 0 g) (fun i => g.length - i) 0 ⟨Nat.zero_le _, rfl⟩ ?_ ?_
      · conv => whnf
        refine ⟨rfl, leaf_i ?_⟩
        repeat' ((with_reducible refine And.intro ?_ ?_) <;> (try (conv => whnf)))
        all_goals (try (first | with_reducible rfl | exact True.intro | rfl | exact id | exact fun h => h | exact fun _ => rfl))
      · rintro i ⟨hi, hn⟩
        dsimp only at hi hn ⊢
        have hin : decide ((i : Int) < (g.length : Int)) = true → (Nd.ins (getE tN g i)).length < 4611686018427387904 ∧ ∀ x ∈ Nd.ins (getE tN g i), 0 ≤ x.1 ∧ x.1 < (th.length : Int) := fun h => by
          have := hp2 _ (getE_mem g (lt_t h))
          exact ⟨this.1, fun x hx => by rw [hl]; exact this.2 x hx⟩
        have hit : decide ((i : Int) < (g.length : Int)) = true → 0 ≤ (i : Int) ∧ (i : Int) < (g.length : Int) := fun h => by
          have := lt_t h; omega
        conv => whnf
        repeat' ((first
          | with_reducible refine ⟨fun h => h, ?_⟩
          | with_reducible refine ⟨pk1, ?_⟩
          | with_reducible refine ⟨pk2, ?_⟩
          | with_reducible refine ⟨pk3, ?_⟩
          | with_reducible refine ⟨pk4, ?_⟩
          | with_reducible refine ⟨pk5, ?_⟩
          | with_reducible refine ⟨pk6, ?_⟩
          | with_reducible refine ⟨trivial, ?_⟩
          | with_reducible refine ⟨fun _ => trivial, ?_⟩
          | with_reducible refine ⟨rfl, ?_⟩
          | with_reducible refine every_i (fun hd => ?_)
          | with_reducible refine fork_t (by assumption) ?_
          | with_reducible refine fork_f (by assumption) ?_
          | refine fork_t rfl ?_
          | refine fork_f rfl ?_
          | with_reducible refine fork_i (fun h => ?_) (fun h => ?_)
          | with_reducible refine both_i ?_ ?_
          | ((with_reducible refine alike_i ?_); exact ⟨rfl, rfl, rfl⟩)
          | ((with_reducible refine fin_i ?_); (conv => whnf); refine ⟨rfl, ?_⟩)
          | refine ⟨hit (by assumption), ?_⟩
          | refine ⟨fun _ => hin (by assumption), ?_⟩
          | refine ⟨of_decide_eq_true rfl, ?_⟩
          | refine ⟨fun _ => of_decide_eq_true rfl, ?_⟩
          | ((with_reducible refine ⟨?_, ?_⟩); (focus (intros; simp_all; done)))
          | ((with_reducible refine ⟨?_, ?_⟩); (focus (intros; omega)))) <;> (try (conv => whnf)))
        · have hi' : i < g.length := lt_t (by assumption)
          have hr : readyB th i (getE tN g i) = true := h
          have hc := cntF_set th i (by omega) (ready_f hr)
          rw [drop_get g hi', nextR, if_pos hr] at hn
          refine ⟨by simp only [List.length_append, List.length_cons, List.length_nil]; omega, ?_⟩
          (conv => whnf)
          conv => whnf
          repeat' ((first
            | with_reducible refine ⟨fun h => h, ?_⟩
            | with_reducible refine ⟨pk1, ?_⟩
            | with_reducible refine ⟨pk2, ?_⟩
            | with_reducible refine ⟨pk3, ?_⟩
            | with_reducible refine ⟨pk4, ?_⟩
            | with_reducible refine ⟨pk5, ?_⟩
            | with_reducible refine ⟨pk6, ?_⟩
            | with_reducible refine ⟨trivial, ?_⟩
            | with_reducible refine ⟨fun _ => trivial, ?_⟩
            | with_reducible refine ⟨rfl, ?_⟩
            | with_reducible refine every_i (fun hd => ?_)
            | with_reducible refine fork_t (by assumption) ?_
            | with_reducible refine fork_f (by assumption) ?_
            | refine fork_t rfl ?_
            | refine fork_f rfl ?_
            | with_reducible refine fork_i (fun h => ?_) (fun h => ?_)
            | with_reducible refine both_i ?_ ?_
            | ((with_reducible refine alike_i ?_); exact ⟨rfl, rfl, rfl⟩)
            | ((with_reducible refine fin_i ?_); (conv => whnf); refine ⟨rfl, ?_⟩)
            | refine ⟨of_decide_eq_true rfl, ?_⟩
            | refine ⟨fun _ => of_decide_eq_true rfl, ?_⟩
            | ((with_reducible refine ⟨?_, ?_⟩); (focus (intros; simp_all; done)))
            | ((with_reducible refine ⟨?_, ?_⟩); (focus (intros; omega)))) <;> (try (conv => whnf)))
          refine next_i (true, th.set i (true, ()), out ++ [((i : Int), ())]) ⟨by simpa using hl, fun _ => ?_, fun h => Bool.noConfusion h, ?_⟩ ?_ rfl rfl ?_
          · dsimp only
            rw [← h1 rfl, hc]
            conv => rhs; unfold ordN
            rw [← hn]
          · simp only [List.length_append, List.length_cons, List.length_nil]; omega
          · dsimp only; simp only [if_true]; omega
          · conv => whnf
            refine ⟨rfl, leaf_i ?_⟩
            repeat' ((with_reducible refine And.intro ?_ ?_) <;> (try (conv => whnf)))
            all_goals (try (first | with_reducible rfl | exact True.intro | rfl | exact id | exact fun h => h | exact fun _ => rfl))
            all_goals (try (first | rfl | exact wrapS (by omega)))
        · have hi' : i < g.length := lt_t (by assumption)
          have hr : ¬ readyB th i (getE tN g i) = true := fun hh => Bool.noConfusion (h.symm.trans hh)
          rw [drop_get g hi', nextR, if_neg hr] at hn
          refine next_i (i + 1) ⟨hi', hn⟩ (by omega) rfl rfl ?_
          conv => whnf
          refine ⟨rfl, leaf_i ?_⟩
          repeat' ((with_reducible refine And.intro ?_ ?_) <;> (try (conv => whnf)))
          all_goals (try (first | with_reducible rfl | exact True.intro | rfl | exact id | exact fun h => h | exact fun _ => rfl))
          all_goals (try (first | rfl | exact wrapS (by omega)))
        · have hi' := lt_f h
          rw [List.drop_eq_nil_of_le hi', nextR] at hn
          refine next_i (false, th, out) ⟨hl, fun h => Bool.noConfusion h, fun _ => ?_, h3⟩ (by dsimp only; simp) rfl rfl ?_
          · dsimp only
            rw [← h1 rfl]
            conv => rhs; unfold ordN
            rw [← hn]
          · conv => whnf
            refine ⟨rfl, leaf_i ?_⟩
            repeat' ((with_reducible refine And.intro ?_ ?_) <;> (try (conv => whnf)))
            all_goals (try (first | with_reducible rfl | exact True.intro | rfl | exact id | exact fun h => h | exact fun _ => rfl))
            all_goals (try (first | rfl | exact wrapS (by omega)))
    · have h2 := h2 h
      all_goals ((with_reducible refine leaf_i ?_); (conv => whnf))
      repeat' ((with_reducible refine And.intro ?_ ?_) <;> (try (conv => whnf)))
      all_goals (try (first | with_reducible rfl | exact True.intro | rfl | exact id | exact fun h => h | exact fun _ => rfl))
      all_goals (first | exact h2 | trace_state)
end Go.Proofs.Ytbgcgokikekmoaa
