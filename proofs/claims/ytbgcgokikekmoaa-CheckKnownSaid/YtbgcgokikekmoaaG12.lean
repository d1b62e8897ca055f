/- Parts of the proof, joined: no conditions of their own. -/
import Derived.Test.YtbgcgokikekmoaaG11
/- Layer 10: the document's Order; rows of numbers that are the same. -/
namespace Go.Proofs.Ytbgcgokikekmoaa
set_option linter.unusedVariables false
set_option linter.unusedSimpArgs false
set_option maxRecDepth 100000
open Go Go.RowKit Go.Proofs.Ytbgcgokikekmoaa.Eng

def k_sameI : Sig := .arg (shR tI) fun a => .arg (shR tI) fun b => .done { pre := a.length < 4611686018427387904, res := B (eqI a b) }
set_option maxHeartbeats 4000000 in
theorem c_sameI : FnOk Try.prog 19 k_sameI.con := by
  refine fnOkS mixed tys_ok (cs := []) trivial Try.func19 rfl (by kernel_rfl) Try.ntmps19 _ (h := ?_)
  intro l m
  refine ⟨rfl, fun hp => ?_⟩
  have hp' : l.length < 4611686018427387904 := hp
  conv => whnf
  repeat' ((first
    | with_reducible refine ⟨fun h => h, ?_⟩
    | with_reducible refine ⟨pk1, ?_⟩
    | with_reducible refine ⟨pk2, ?_⟩
    | with_reducible refine ⟨pk3, ?_⟩
    | with_reducible refine ⟨pk4, ?_⟩
    | with_reducible refine ⟨pk5, ?_⟩
    | with_reducible refine ⟨pk6, ?_⟩
    | with_reducible refine ⟨trivial, ?_⟩
    | with_reducible refine ⟨fun _ => trivial, ?_⟩
    | with_reducible refine ⟨rfl, ?_⟩
    | with_reducible refine every_i (fun hd => ?_)
    | with_reducible refine fork_t (by assumption) ?_
    | with_reducible refine fork_f (by assumption) ?_
    | refine fork_t rfl ?_
    | refine fork_f rfl ?_
    | with_reducible refine fork_i (fun h => ?_) (fun h => ?_)
    | with_reducible refine both_i ?_ ?_
    | ((with_reducible refine alike_i ?_); exact ⟨rfl, rfl, rfl⟩)
    | ((with_reducible refine fin_i ?_); (conv => whnf); refine ⟨rfl, ?_⟩)
    | refine ⟨of_decide_eq_true rfl, ?_⟩
    | refine ⟨fun _ => of_decide_eq_true rfl, ?_⟩
    | ((with_reducible refine ⟨?_, ?_⟩); (focus (intros; simp_all; done)))
    | ((with_reducible refine ⟨?_, ?_⟩); (focus (intros; omega)))) <;> (try (conv => whnf)))
  · have hn : l.length ≠ m.length := bnl_t h
    all_goals ((with_reducible refine leaf_i ?_); (conv => whnf))
    repeat' ((with_reducible refine And.intro ?_ ?_) <;> (try (conv => whnf)))
    all_goals (try (first | with_reducible rfl | exact True.intro | rfl | exact id | exact fun h => h | exact fun _ => rfl))
    all_goals (rw [eqI_len hn])
  · have hn : l.length = m.length := bnl_f h
    refine looped (σ := Nat) (fun j => [(5, I j)]) (fun _ => []) (fun j => j ≤ l.length ∧ eqI (l.drop j) (m.drop j) = eqI l m) (fun j => l.length - j) 0 ⟨Nat.zero_le _, rfl⟩ ?_ ?_
    · conv => whnf
      refine ⟨rfl, leaf_i ?_⟩
      repeat' ((with_reducible refine And.intro ?_ ?_) <;> (try (conv => whnf)))
      all_goals (try (first | with_reducible rfl | exact True.intro | rfl | exact id | exact fun h => h | exact fun _ => rfl))
    · rintro j ⟨hj, hl⟩
      dsimp only at hj hl ⊢
      have hi : decide ((j : Int) < (l.length : Int)) = true → 0 ≤ (j : Int) ∧ (j : Int) < (m.length : Int) := fun h => by have := lt_t h; omega
      conv => whnf
      repeat' ((first
        | with_reducible refine ⟨fun h => h, ?_⟩
        | with_reducible refine ⟨pk1, ?_⟩
        | with_reducible refine ⟨pk2, ?_⟩
        | with_reducible refine ⟨pk3, ?_⟩
        | with_reducible refine ⟨pk4, ?_⟩
        | with_reducible refine ⟨pk5, ?_⟩
        | with_reducible refine ⟨pk6, ?_⟩
        | with_reducible refine ⟨trivial, ?_⟩
        | with_reducible refine ⟨fun _ => trivial, ?_⟩
        | with_reducible refine ⟨rfl, ?_⟩
        | with_reducible refine every_i (fun hd => ?_)
        | with_reducible refine fork_t (by assumption) ?_
        | with_reducible refine fork_f (by assumption) ?_
        | refine fork_t rfl ?_
        | refine fork_f rfl ?_
        | with_reducible refine fork_i (fun h => ?_) (fun h => ?_)
        | with_reducible refine both_i ?_ ?_
        | ((with_reducible refine alike_i ?_); exact ⟨rfl, rfl, rfl⟩)
        | ((with_reducible refine fin_i ?_); (conv => whnf); refine ⟨rfl, ?_⟩)
        | refine ⟨hi (by assumption), ?_⟩
        | refine ⟨of_decide_eq_true rfl, ?_⟩
        | refine ⟨fun _ => of_decide_eq_true rfl, ?_⟩
        | ((with_reducible refine ⟨?_, ?_⟩); (focus (intros; simp_all; done)))
        | ((with_reducible refine ⟨?_, ?_⟩); (focus (intros; omega)))) <;> (try (conv => whnf)))
      · have hj' : j < l.length := lt_t (by assumption)
        have hx : (getE tI l j).1 ≠ (getE tI m j).1 := bne_t (by assumption)
        rw [eqI_step hj' (by omega), beq_eq_false_iff_ne.2 hx] at hl
        all_goals ((with_reducible refine leaf_i ?_); (conv => whnf))
        repeat' ((with_reducible refine And.intro ?_ ?_) <;> (try (conv => whnf)))
        all_goals (try (first | with_reducible rfl | exact True.intro | rfl | exact id | exact fun h => h | exact fun _ => rfl))
        all_goals (rw [← hl]; rfl)
      · have hj' : j < l.length := lt_t (by assumption)
        have hx : (getE tI l j).1 = (getE tI m j).1 := bne_f (by assumption)
        rw [eqI_step hj' (by omega), beq_iff_eq.2 hx, Bool.true_and] at hl
        refine next_i (j + 1) ⟨hj', hl⟩ (by omega) rfl rfl ?_
        conv => whnf
        refine ⟨rfl, leaf_i ?_⟩
        repeat' ((with_reducible refine And.intro ?_ ?_) <;> (try (conv => whnf)))
        all_goals (try (first | with_reducible rfl | exact True.intro | rfl | exact id | exact fun h => h | exact fun _ => rfl))
        all_goals exact wrapS (Nat.lt_trans hj' hp')
      · have hj' : l.length ≤ j := lt_f (by assumption)
        rw [eqI_end hj' (by omega)] at hl
        all_goals ((with_reducible refine leaf_i ?_); (conv => whnf))
        repeat' ((with_reducible refine And.intro ?_ ?_) <;> (try (conv => whnf)))
        all_goals (try (first | with_reducible rfl | exact True.intro | rfl | exact id | exact fun h => h | exact fun _ => rfl))
        all_goals (rw [← hl])

/-- Are node i's inputs from its k-th on there? -/
def restB (th : List (El tB)) (n : Nd) (k : Nat) : Bool := bif n.kind == 9 then true else !((n.ins.drop k).any fun x => missB th x.1)
theorem rest_0 (th : List (El tB)) (i : Nat) (n : Nd) : (!(getE tB th i).1 && restB th n 0) = readyB th i n := by
  unfold restB readyB
  rw [hasP_any, List.drop_zero]
  cases (getE tB th i).1 <;> simp
theorem rest_s {th : List (El tB)} {n : Nd} {k : Nat} (hk : k < n.ins.length) (m : Bool) : ((bif m then (bif n.kind == 9 then true else (getE tB th (getE tI n.ins k).1.toNat).1) else false) && restB th n (k + 1)) = (m && restB th n k) := by
  unfold restB
  rw [drop_get n.ins hk, List.any_cons]
  unfold missB
  cases m <;> cases (n.kind == 9) <;> simp
theorem rest_e {th : List (El tB)} {n : Nd} {k : Nat} (hk : n.ins.length ≤ k) : restB th n k = true := by
  unfold restB
  rw [List.drop_eq_nil_of_le hk]
  cases (n.kind == 9) <;> rfl
theorem rorder_no {g : List Nd} (h : (rcheckG g).2 ≠ 0) : rorderC g = ([], (rcheckG g).2) := by unfold rorderC; rw [if_pos h]
theorem rorder_cyc {g : List Nd} (h : ¬ (rcheckG g).2 ≠ 0) (h' : rordN g g.length (falseR g.length) [] = none) : rorderC g = ([], 102) := by unfold rorderC; rw [if_neg h, h']
theorem rorder_ok {g : List Nd} (h : ¬ (rcheckG g).2 ≠ 0) {l : List (El tI)} (h' : rordN g g.length (falseR g.length) [] = some l) : rorderC g = (l, 0) := by unfold rorderC; rw [if_neg h, h']
theorem rordN_0 (g : List Nd) (th : List (El tB)) (out : List (El tI)) : rordN g 0 th out = some out := rfl
theorem nextR_c (th : List (El tB)) (i : Nat) (n : Nd) (r : List Nd) : nextR th i (n :: r) = if readyB th i n = true then some i else nextR th (i + 1) r := rfl
theorem nextR_n (th : List (El tB)) (i : Nat) : nextR th i [] = none := rfl
theorem next_case {g : List Nd} {th : List (El tB)} {i : Nat} {nx : Int} (hn2 : (nx = -1 ∧ nextR th i (g.drop i) = nextR th 0 g) ∨ ∃ n : Nat, nx = n ∧ n < g.length ∧ nextR th 0 g = some n)
    (hc : (bif decide ((i : Int) < (g.length : Int)) then decide (nx < 0) else false) = false) : (nx = -1 ∧ nextR th 0 g = none) ∨ ∃ n : Nat, nx = n ∧ n < g.length ∧ nextR th 0 g = some n := by
  rcases hn2 with ⟨h1, h2⟩ | h2
  · left
    rw [h1] at hc
    cases h3 : decide ((i : Int) < (g.length : Int)) with
    | true => rw [h3] at hc; cases hc
    | false =>
      rw [List.drop_eq_nil_of_le (lt_f h3), nextR_n] at h2
      exact ⟨h1, h2.symm⟩
  · exact .inr h2
attribute [local irreducible] rcheckG rorderC rordN nextR restB readyB
def k_rOrder : Sig := .arg (shR tN) fun g => .done { pre := fitG g, res := .tup (.cons (.rl true tI (rorderC g).1) (.cons (I (rorderC g).2) .nil)) }
set_option maxHeartbeats 8000000 in
theorem c_rOrder : FnOk Try.prog 18 k_rOrder.con := by
  refine fnOkS mixed tys_ok (cs := [(16, k_rcheck.con)]) ⟨c_rcheck, trivial⟩ Try.func18 rfl (by kernel_rfl) Try.ntmps18 _ (h := ?_)
  intro g
  refine ⟨rfl, fun hp => ?_⟩
  have hp : fitG g := hp
  have hmk : ((rcheckG g).2 != 0) = false → (0 : Int) ≤ (g.length : Int) ∧ (g.length : Int) ≤ (g.length : Int) ∧ (g.length : Int) ≤ 1000000000 := fun h => by
    have h0 : (checkG g).2 = 0 := by rw [← check_same]; simpa using h
    have := (check_parts h0).1.1
    omega
  conv => whnf
  repeat' ((first
    | with_reducible refine ⟨fun h => h, ?_⟩
    | with_reducible refine ⟨pk1, ?_⟩
    | with_reducible refine ⟨pk2, ?_⟩
    | with_reducible refine ⟨pk3, ?_⟩
    | with_reducible refine ⟨pk4, ?_⟩
    | with_reducible refine ⟨pk5, ?_⟩
    | with_reducible refine ⟨pk6, ?_⟩
    | with_reducible refine ⟨trivial, ?_⟩
    | with_reducible refine ⟨fun _ => trivial, ?_⟩
    | with_reducible refine ⟨rfl, ?_⟩
    | with_reducible refine every_i (fun hd => ?_)
    | with_reducible refine fork_t (by assumption) ?_
    | with_reducible refine fork_f (by assumption) ?_
    | refine fork_t rfl ?_
    | refine fork_f rfl ?_
    | with_reducible refine fork_i (fun h => ?_) (fun h => ?_)
    | with_reducible refine both_i ?_ ?_
    | ((with_reducible refine alike_i ?_); exact ⟨rfl, rfl, rfl⟩)
    | ((with_reducible refine fin_i ?_); (conv => whnf); refine ⟨rfl, ?_⟩)
    | refine ⟨hp, ?_⟩
    | refine ⟨hmk (by assumption), ?_⟩
    | refine ⟨of_decide_eq_true rfl, ?_⟩
    | refine ⟨fun _ => of_decide_eq_true rfl, ?_⟩
    | ((with_reducible refine ⟨?_, ?_⟩); (focus (intros; simp_all; done)))
    | ((with_reducible refine ⟨?_, ?_⟩); (focus (intros; omega)))) <;> (try (conv => whnf)))
  · have hn : (rcheckG g).2 ≠ 0 := by simpa using h
    rw [rorder_no hn]
    all_goals ((with_reducible refine leaf_i ?_); (conv => whnf))
    repeat' ((with_reducible refine And.intro ?_ ?_) <;> (try (conv => whnf)))
    all_goals (try (first | with_reducible rfl | exact True.intro | rfl | exact id | exact fun h => h | exact fun _ => rfl))
    all_goals (first | rfl | trace_state)
  · have hn : ¬ (rcheckG g).2 ≠ 0 := by simpa using h
    have h0 : (checkG g).2 = 0 := by rw [← check_same]; exact Decidable.not_not.1 hn
    have hpar := check_parts h0
    have hin := node_in hpar.2.1
    have hlen := hpar.1.1
    refine only [7, 0] ?_
    (conv => whnf)
    refine looped (σ := List (El tB) × List (El tI)) (fun x => [(6, .ow 1 1 x.2.length)]) (fun x => [.row true tB 4 x.1, .row true tI 3 x.2]) (fun x => x.1.length = g.length ∧ x.2.length ≤ g.length ∧ rordN g (g.length - x.2.length) x.1 x.2 = rordN g g.length (falseR g.length) []) (fun x => g.length - x.2.length) (falseR g.length, []) ⟨by simp [falseR], Nat.zero_le _, rfl⟩ ?_ ?_
    · conv => whnf
      refine ⟨rfl, leaf_i ?_⟩
      repeat' ((with_reducible refine And.intro ?_ ?_) <;> (try (conv => whnf)))
      all_goals (try (first | with_reducible rfl | exact True.intro | rfl | exact id | exact fun h => h | exact fun _ => rfl))
    · rintro ⟨th, out⟩ ⟨hl, ho, hr⟩
      dsimp only at hl ho hr ⊢
      conv => whnf
      repeat' ((first
        | with_reducible refine ⟨fun h => h, ?_⟩
        | with_reducible refine ⟨pk1, ?_⟩
        | with_reducible refine ⟨pk2, ?_⟩
        | with_reducible refine ⟨pk3, ?_⟩
        | with_reducible refine ⟨pk4, ?_⟩
        | with_reducible refine ⟨pk5, ?_⟩
        | with_reducible refine ⟨pk6, ?_⟩
        | with_reducible refine ⟨trivial, ?_⟩
        | with_reducible refine ⟨fun _ => trivial, ?_⟩
        | with_reducible refine ⟨rfl, ?_⟩
        | with_reducible refine every_i (fun hd => ?_)
        | with_reducible refine fork_t (by assumption) ?_
        | with_reducible refine fork_f (by assumption) ?_
        | refine fork_t rfl ?_
        | refine fork_f rfl ?_
        | with_reducible refine fork_i (fun h => ?_) (fun h => ?_)
        | with_reducible refine both_i ?_ ?_
        | ((with_reducible refine alike_i ?_); exact ⟨rfl, rfl, rfl⟩)
        | ((with_reducible refine fin_i ?_); (conv => whnf); refine ⟨rfl, ?_⟩)
        | refine ⟨of_decide_eq_true rfl, ?_⟩
        | refine ⟨fun _ => of_decide_eq_true rfl, ?_⟩
        | ((with_reducible refine ⟨?_, ?_⟩); (focus (intros; simp_all; done)))
        | ((with_reducible refine ⟨?_, ?_⟩); (focus (intros; omega)))) <;> (try (conv => whnf)))
      · have ho' : out.length < g.length := lt_t h
        rw [show g.length - out.length = (g.length - out.length - 1) + 1 by omega, rordN_s] at hr
        refine only [7, 6, 0] ?_
        (conv => whnf)
        refine looped (σ := Nat × Int) (fun x => [(9, I x.1), (8, I x.2)]) (fun x => [.row true tB 4 th, .row true tI 3 out]) (fun x => x.1 ≤ g.length ∧ ((x.2 = -1 ∧ nextR th x.1 (g.drop x.1) = nextR th 0 g) ∨ ∃ n : Nat, x.2 = n ∧ n < g.length ∧ nextR th 0 g = some n)) (fun x => g.length - x.1) (0, -1) ⟨Nat.zero_le _, .inl ⟨rfl, rfl⟩⟩ ?_ ?_
        · conv => whnf
          refine ⟨rfl, leaf_i ?_⟩
          repeat' ((with_reducible refine And.intro ?_ ?_) <;> (try (conv => whnf)))
          all_goals (try (first | with_reducible rfl | exact True.intro | rfl | exact id | exact fun h => h | exact fun _ => rfl))
        · rintro ⟨i, nx⟩ ⟨hi, hn2⟩
          dsimp only at hi hn2 ⊢
          conv => whnf
          repeat' ((first
            | with_reducible refine ⟨fun h => h, ?_⟩
            | with_reducible refine ⟨pk1, ?_⟩
            | with_reducible refine ⟨pk2, ?_⟩
            | with_reducible refine ⟨pk3, ?_⟩
            | with_reducible refine ⟨pk4, ?_⟩
            | with_reducible refine ⟨pk5, ?_⟩
            | with_reducible refine ⟨pk6, ?_⟩
            | with_reducible refine ⟨trivial, ?_⟩
            | with_reducible refine ⟨fun _ => trivial, ?_⟩
            | with_reducible refine ⟨rfl, ?_⟩
            | with_reducible refine every_i (fun hd => ?_)
            | with_reducible refine fork_t (by assumption) ?_
            | with_reducible refine fork_f (by assumption) ?_
            | refine fork_t rfl ?_
            | refine fork_f rfl ?_
            | with_reducible refine fork_i (fun h => ?_) (fun h => ?_)
            | with_reducible refine both_i ?_ ?_
            | ((with_reducible refine alike_i ?_); exact ⟨rfl, rfl, rfl⟩)
            | ((with_reducible refine fin_i ?_); (conv => whnf); refine ⟨rfl, ?_⟩)
            | refine ⟨of_decide_eq_true rfl, ?_⟩
            | refine ⟨fun _ => of_decide_eq_true rfl, ?_⟩
            | ((with_reducible refine ⟨?_, ?_⟩); (focus (intros; simp_all; done)))
            | ((with_reducible refine ⟨?_, ?_⟩); (focus (intros; omega)))) <;> (try (conv => whnf)))
          · have hii : i < g.length ∧ nx < 0 := by
              have h' : (bif decide ((i : Int) < (g.length : Int)) then decide (nx < 0) else false) = true := h
              cases h1 : decide ((i : Int) < (g.length : Int)) with
              | false => rw [h1] at h'; cases h'
              | true => rw [h1] at h'; exact ⟨lt_t h1, of_decide_eq_true h'⟩
            obtain ⟨hi', hx⟩ := hii
            have hn3 : nx = -1 ∧ nextR th i (g.drop i) = nextR th 0 g := by
              rcases hn2 with h2 | ⟨n, e, _, _⟩
              · exact h2
              · omega
            obtain ⟨e1, hn3⟩ := hn3
            subst e1
            rw [drop_get g hi', nextR_c] at hn3
            have hti : 0 ≤ (i : Int) ∧ (i : Int) < (th.length : Int) := by omega
            have hgi : 0 ≤ (i : Int) ∧ (i : Int) < (g.length : Int) := by omega
            have hins := hp.2 _ (getE_mem g hi')
            conv => whnf
            repeat' ((first
              | with_reducible refine ⟨fun h => h, ?_⟩
              | with_reducible refine ⟨pk1, ?_⟩
              | with_reducible refine ⟨pk2, ?_⟩
              | with_reducible refine ⟨pk3, ?_⟩
              | with_reducible refine ⟨pk4, ?_⟩
              | with_reducible refine ⟨pk5, ?_⟩
              | with_reducible refine ⟨pk6, ?_⟩
              | with_reducible refine ⟨trivial, ?_⟩
              | with_reducible refine ⟨fun _ => trivial, ?_⟩
              | with_reducible refine ⟨rfl, ?_⟩
              | with_reducible refine every_i (fun hd => ?_)
              | with_reducible refine fork_t (by assumption) ?_
              | with_reducible refine fork_f (by assumption) ?_
              | refine fork_t rfl ?_
              | refine fork_f rfl ?_
              | with_reducible refine fork_i (fun h => ?_) (fun h => ?_)
              | with_reducible refine both_i ?_ ?_
              | ((with_reducible refine alike_i ?_); exact ⟨rfl, rfl, rfl⟩)
              | ((with_reducible refine fin_i ?_); (conv => whnf); refine ⟨rfl, ?_⟩)
              | refine ⟨hti, ?_⟩
              | refine ⟨hgi, ?_⟩
              | refine ⟨of_decide_eq_true rfl, ?_⟩
              | refine ⟨fun _ => of_decide_eq_true rfl, ?_⟩
              | ((with_reducible refine ⟨?_, ?_⟩); (focus (intros; simp_all; done)))
              | ((with_reducible refine ⟨?_, ?_⟩); (focus (intros; omega)))) <;> (try (conv => whnf)))
            refine only [10, 9, 8, 7, 6, 0] ?_
            (conv => whnf)
            refine looped (σ := Nat × Bool) (fun x => [(11, I x.1), (10, B x.2)]) (fun x => [.row true tB 4 th, .row true tI 3 out]) (fun x => x.1 ≤ (Nd.ins (getE tN g i)).length ∧ (x.2 && restB th (getE tN g i) x.1) = readyB th i (getE tN g i)) (fun x => (Nd.ins (getE tN g i)).length - x.1) (0, !(getE tB th i).1) ⟨Nat.zero_le _, rest_0 th i (getE tN g i)⟩ ?_ ?_
            · conv => whnf
              refine ⟨rfl, leaf_i ?_⟩
              repeat' ((with_reducible refine And.intro ?_ ?_) <;> (try (conv => whnf)))
              all_goals (try (first | with_reducible rfl | exact True.intro | rfl | exact id | exact fun h => h | exact fun _ => rfl))
            · rintro ⟨k, may⟩ ⟨hk, hm⟩
              dsimp only at hk hm ⊢
              have hki : decide ((k : Int) < ((Nd.ins (getE tN g i)).length : Int)) = true → 0 ≤ (k : Int) ∧ (k : Int) < ((Nd.ins (getE tN g i)).length : Int) := fun h => by have := lt_t h; omega
              have hkt : decide ((k : Int) < ((Nd.ins (getE tN g i)).length : Int)) = true → 0 ≤ (getE tI (Nd.ins (getE tN g i)) k).1 ∧ (getE tI (Nd.ins (getE tN g i)) k).1 < (g.length : Int) := fun h => hin i hi' k (lt_t h)
              conv => whnf
              repeat' ((first
                | with_reducible refine ⟨fun h => h, ?_⟩
                | with_reducible refine ⟨pk1, ?_⟩
                | with_reducible refine ⟨pk2, ?_⟩
                | with_reducible refine ⟨pk3, ?_⟩
                | with_reducible refine ⟨pk4, ?_⟩
                | with_reducible refine ⟨pk5, ?_⟩
                | with_reducible refine ⟨pk6, ?_⟩
                | with_reducible refine ⟨trivial, ?_⟩
                | with_reducible refine ⟨fun _ => trivial, ?_⟩
                | with_reducible refine ⟨rfl, ?_⟩
                | with_reducible refine every_i (fun hd => ?_)
                | with_reducible refine fork_t (by assumption) ?_
                | with_reducible refine fork_f (by assumption) ?_
                | refine fork_t rfl ?_
                | refine fork_f rfl ?_
                | with_reducible refine fork_i (fun h => ?_) (fun h => ?_)
                | with_reducible refine both_i ?_ ?_
                | ((with_reducible refine alike_i ?_); exact ⟨rfl, rfl, rfl⟩)
                | ((with_reducible refine fin_i ?_); (conv => whnf); refine ⟨rfl, ?_⟩)
                | refine ⟨hgi, ?_⟩
                | refine ⟨fun _ => hgi, ?_⟩
                | refine ⟨fun _ => hki (by assumption), ?_⟩
                | refine ⟨fun _ => hkt (by assumption), ?_⟩
                | refine ⟨of_decide_eq_true rfl, ?_⟩
                | refine ⟨fun _ => of_decide_eq_true rfl, ?_⟩
                | ((with_reducible refine ⟨?_, ?_⟩); (focus (intros; simp_all; done)))
                | ((with_reducible refine ⟨?_, ?_⟩); (focus (intros; omega)))) <;> (try (conv => whnf)))
              · have hk' : k < (Nd.ins (getE tN g i)).length := lt_t (by assumption)
                have hinv : k + 1 ≤ (Nd.ins (getE tN g i)).length ∧ ((bif may then (bif (Nd.kind (getE tN g i)) == 9 then true else (getE tB th (getE tI (Nd.ins (getE tN g i)) k).1.toNat).1) else false) && restB th (getE tN g i) (k + 1)) = readyB th i (getE tN g i) := ⟨hk', (rest_s hk' may).trans hm⟩
                refine next_i (k + 1, (bif may then (bif (Nd.kind (getE tN g i)) == 9 then true else (getE tB th (getE tI (Nd.ins (getE tN g i)) k).1.toNat).1) else false)) hinv ?_ rfl rfl ?_
                · show (Nd.ins (getE tN g i)).length - (k + 1) < (Nd.ins (getE tN g i)).length - k
                  omega
                · conv => whnf
                  refine ⟨rfl, leaf_i ?_⟩
                  repeat' ((with_reducible refine And.intro ?_ ?_) <;> (try (conv => whnf)))
                  all_goals (try (first | with_reducible rfl | exact True.intro | rfl | exact id | exact fun h => h | exact fun _ => rfl))
                  all_goals (try (first | rfl | exact wrapS (by omega)))
              · have hk' : (Nd.ins (getE tN g i)).length ≤ k := lt_f (by assumption)
                rw [rest_e hk', Bool.and_true] at hm
                have hm2 : may = true := by assumption
                rw [hm2] at hm
                rw [if_pos hm.symm] at hn3
                refine next_i (i + 1, (i : Int)) ⟨hi', .inr ⟨i, rfl, hi', hn3.symm⟩⟩ (by dsimp only; omega) rfl rfl ?_
                conv => whnf
                refine ⟨rfl, leaf_i ?_⟩
                repeat' ((with_reducible refine And.intro ?_ ?_) <;> (try (conv => whnf)))
                all_goals (try (first | with_reducible rfl | exact True.intro | rfl | exact id | exact fun h => h | exact fun _ => rfl))
                all_goals (try (first | rfl | exact wrapS (by omega)))
              · have hk' : (Nd.ins (getE tN g i)).length ≤ k := lt_f (by assumption)
                rw [rest_e hk', Bool.and_true] at hm
                have hm2 : may = false := by assumption
                rw [hm2] at hm
                rw [if_neg (by rw [← hm]; simp)] at hn3
                refine next_i (i + 1, -1) ⟨hi', .inl ⟨rfl, hn3⟩⟩ (by dsimp only; omega) rfl rfl ?_
                conv => whnf
                refine ⟨rfl, leaf_i ?_⟩
                repeat' ((with_reducible refine And.intro ?_ ?_) <;> (try (conv => whnf)))
                all_goals (try (first | with_reducible rfl | exact True.intro | rfl | exact id | exact fun h => h | exact fun _ => rfl))
                all_goals (try (first | rfl | exact wrapS (by omega)))
          · have hcase := next_case hn2 (by assumption)
            have hx : nx < 0 := of_decide_eq_true (by assumption)
            have hno : nextR th 0 g = none := by
              rcases hcase with ⟨_, h2⟩ | ⟨n, h1, _, _⟩
              · exact h2
              · omega
            rw [hno] at hr
            rw [rorder_cyc hn hr.symm]
            all_goals ((with_reducible refine leaf_i ?_); (conv => whnf))
            repeat' ((with_reducible refine And.intro ?_ ?_) <;> (try (conv => whnf)))
            all_goals (try (first | with_reducible rfl | exact True.intro | rfl | exact id | exact fun h => h | exact fun _ => rfl))
            all_goals (first | rfl | trace_state)
          · have hcase := next_case hn2 (by assumption)
            have hx : ¬ nx < 0 := of_decide_eq_false (by assumption)
            obtain ⟨n, e, hng, hsome⟩ : ∃ n : Nat, nx = n ∧ n < g.length ∧ nextR th 0 g = some n := by
              rcases hcase with ⟨h1, _⟩ | h2
              · omega
              · exact h2
            subst e
            rw [hsome] at hr
            have hb1 : 0 ≤ (n : Int) ∧ (n : Int) < (g.length : Int) := by omega
            have hb2 : (out ++ [((n : Int), ())]).length ≤ 1000000000 := by simp only [List.length_append, List.length_cons, List.length_nil]; omega
            conv => whnf
            repeat' ((first
              | with_reducible refine ⟨fun h => h, ?_⟩
              | with_reducible refine ⟨pk1, ?_⟩
              | with_reducible refine ⟨pk2, ?_⟩
              | with_reducible refine ⟨pk3, ?_⟩
              | with_reducible refine ⟨pk4, ?_⟩
              | with_reducible refine ⟨pk5, ?_⟩
              | with_reducible refine ⟨pk6, ?_⟩
              | with_reducible refine ⟨trivial, ?_⟩
              | with_reducible refine ⟨fun _ => trivial, ?_⟩
              | with_reducible refine ⟨rfl, ?_⟩
              | with_reducible refine every_i (fun hd => ?_)
              | with_reducible refine fork_t (by assumption) ?_
              | with_reducible refine fork_f (by assumption) ?_
              | refine fork_t rfl ?_
              | refine fork_f rfl ?_
              | with_reducible refine fork_i (fun h => ?_) (fun h => ?_)
              | with_reducible refine both_i ?_ ?_
              | ((with_reducible refine alike_i ?_); exact ⟨rfl, rfl, rfl⟩)
              | ((with_reducible refine fin_i ?_); (conv => whnf); refine ⟨rfl, ?_⟩)
              | refine ⟨hb1, ?_⟩
              | refine ⟨hb2, ?_⟩
              | refine ⟨of_decide_eq_true rfl, ?_⟩
              | refine ⟨fun _ => of_decide_eq_true rfl, ?_⟩
              | ((with_reducible refine ⟨?_, ?_⟩); (focus (intros; simp_all; done)))
              | ((with_reducible refine ⟨?_, ?_⟩); (focus (intros; omega)))) <;> (try (conv => whnf)))
            refine next_i (th.set n (true, ()), out ++ [((n : Int), ())]) ⟨by simpa using hl, by simp only [List.length_append, List.length_cons, List.length_nil]; omega, ?_⟩ ?_ rfl rfl ?_
            · dsimp only
              rw [← hr]
              congr 1
              simp only [List.length_append, List.length_cons, List.length_nil]
              omega
            · simp only [List.length_append, List.length_cons, List.length_nil]; omega
            · conv => whnf
              refine ⟨rfl, leaf_i ?_⟩
              repeat' ((with_reducible refine And.intro ?_ ?_) <;> (try (conv => whnf)))
              all_goals (try (first | with_reducible rfl | exact True.intro | rfl | exact id | exact fun h => h | exact fun _ => rfl))
              all_goals (try (first | rfl | trace_state))
      · have ho' : g.length ≤ out.length := lt_f h
        rw [show g.length - out.length = 0 by omega, rordN_0] at hr
        rw [rorder_ok hn hr.symm]
        all_goals ((with_reducible refine leaf_i ?_); (conv => whnf))
        repeat' ((with_reducible refine And.intro ?_ ?_) <;> (try (conv => whnf)))
        all_goals (try (first | with_reducible rfl | exact True.intro | rfl | exact id | exact fun h => h | exact fun _ => rfl))
        all_goals (first | rfl | trace_state)
end Go.Proofs.Ytbgcgokikekmoaa

/- Layer 10 in plain Lean: what an order has; a graph with a node more. -/
namespace Go.Proofs.Ytbgcgokikekmoaa
set_option linter.unusedVariables false
set_option linter.unusedSimpArgs false
open Go Go.Proofs.Ytbgcgokikekmoaa.Eng

/-- Which nodes are there behind a few. -/
def thF (n : Nat) (l : List (El tI)) : List (El tB) := l.foldl (fun th x => th.set x.1.toNat (true, ())) (falseR n)
theorem thF_snoc (n : Nat) (l : List (El tI)) (x : El tI) : thF n (l ++ [x]) = (thF n l).set x.1.toNat (true, ()) := by
  unfold thF; rw [List.foldl_append]; rfl
theorem thF_len (n : Nat) (l : List (El tI)) : (thF n l).length = n := by
  unfold thF
  suffices ∀ (l : List (El tI)) (th : List (El tB)), th.length = n → (l.foldl (fun th x => th.set x.1.toNat (true, ())) th).length = n from this l _ (by simp [falseR])
  intro l
  induction l with
  | nil => intro th h; exact h
  | cons x r ih => intro th h; exact ih _ (by rw [List.length_set]; exact h)
theorem ordN_spec {g : List Nd} : ∀ (f : Nat) (th : List (El tB)) (out : List (El tI)), th = thF g.length out → ∃ e, ordN g f th out = out ++ e ∧
    ∀ i, i < e.length → ∃ n : Nat, (getE tI e i).1 = n ∧ n < g.length ∧ readyB (thF g.length (out ++ e.take i)) n (getE tN g n) = true
  | 0, th, out, _ => ⟨[], by unfold ordN; simp, fun i hi => absurd hi (Nat.not_lt_zero _)⟩
  | f + 1, th, out, ht => by
    rw [ordN_s]
    cases hn : nextR th 0 g with
    | none => exact ⟨[], by simp, fun i hi => absurd hi (Nat.not_lt_zero _)⟩
    | some i =>
      obtain ⟨_, h2, h3, _⟩ := nextR_some g 0 hn
      obtain ⟨e, h4, h5⟩ := ordN_spec f (th.set i (true, ())) (out ++ [((i : Int), ())]) (by rw [thF_snoc, ht]; rfl)
      refine ⟨((i : Int), ()) :: e, ?_, fun j hj => ?_⟩
      · simp only
        rw [h4]; simp
      · cases j with
        | zero =>
          refine ⟨i, rfl, by omega, ?_⟩
          rw [List.take_zero, List.append_nil, ← ht]
          exact h3
        | succ j =>
          obtain ⟨n, h6, h7, h8⟩ := h5 j (by simpa using hj)
          refine ⟨n, h6, h7, ?_⟩
          rw [List.take_succ_cons]
          rw [List.append_assoc] at h8
          exact h8
theorem rordN_len {g : List Nd} : ∀ (f : Nat) (th : List (El tB)) (out : List (El tI)) {l : List (El tI)}, rordN g f th out = some l → l.length = out.length + f
  | 0, th, out, l, h => by unfold rordN at h; injection h with h; rw [← h]; rfl
  | f + 1, th, out, l, h => by
    rw [rordN_s] at h
    cases hn : nextR th 0 g with
    | none => rw [hn] at h; cases h
    | some i =>
      rw [hn] at h
      have := rordN_len f _ _ h
      rw [this]; simp only [List.length_append, List.length_cons, List.length_nil]; omega
/-- What an order has. -/
def OrdOk (g : List Nd) (l : List (El tI)) : Prop := l.length = g.length ∧ ∀ i, i < g.length → ∃ n : Nat, (getE tI l i).1 = n ∧ n < g.length ∧ readyB (thF g.length (l.take i)) n (getE tN g n) = true
theorem order_ok {g : List Nd} (h : (checkG g).2 = 0) : OrdOk g (orderG g) := by
  obtain ⟨hf, hn, hs⟩ := check_parts h
  have ha := ord_all (node_in hn) (check_dep h) hs g.length (falseR g.length) [] (by simp [falseR]) (cntF_rep _)
  have hl := rordN_len _ _ _ ha
  rw [← orderG_eq] at hl
  simp only [List.length_nil, Nat.zero_add] at hl
  refine ⟨hl, fun i hi => ?_⟩
  obtain ⟨e, h4, h5⟩ := ordN_spec (g := g) (g.length + 1) (falseR g.length) [] rfl
  rw [← orderG_eq, List.nil_append] at h4
  rw [← h4] at h5
  have := h5 i (by omega)
  rwa [List.nil_append] at this
/-! ### A node more -/
theorem putG_iff {g : List Nd} : (putG g).2 = 0 ↔ (1 ≤ g.length ∧ g.length ≤ 32) ∧ g.all mayN = true := by
  unfold putG
  by_cases h : g.length < 1 ∨ 32 < g.length
  · rw [if_pos h]
    constructor
    · intro h'; cases h'
    · rintro ⟨h', _⟩; omega
  · rw [if_neg h, putF_all]
    by_cases ha : g.all mayN = true
    · rw [if_pos ha]; exact ⟨fun _ => ⟨by omega, ha⟩, fun _ => rfl⟩
    · rw [if_neg ha]
      constructor
      · intro h'; cases h'
      · rintro ⟨_, h'⟩; exact absurd h' ha
theorem badL_none {g : List Nd} : ∀ (f i : Nat), i + f = g.length → (∀ j : Nat, j < g.length → nodeE g (j : Int) = 0) → badL g i (g.drop i) = none
  | 0, i, h, _ => by rw [List.drop_eq_nil_of_le (by omega), badL_n]
  | f + 1, i, h, hn => by
    rw [drop_get g (by omega), badL_s, if_neg (by rw [hn i (by omega)]; simp)]
    exact badL_none f (i + 1) (by omega) hn
theorem check_of {g : List Nd} (hp : (putG g).2 = 0) (hn : ∀ j : Nat, j < g.length → nodeE g (j : Int) = 0) (hs : ¬ stuckG g < g.length) : checkG g = ((g.length : Int), 0) :=
  check_ok (by rw [hp]; simp) (by have := badL_none g.length 0 (by omega) hn; rwa [List.drop_zero] at this) hs
theorem fe_iff {g : List Nd} {i j : Nat} : Fe g i j ↔ j < g.length ∧ ∃ x ∈ (nd g (j : Int)).ins, x.1 = (i : Int) := by
  constructor
  · intro h
    refine ⟨fe_lt h, ?_⟩
    obtain ⟨p, hp, e⟩ := h
    have h1 : ∀ (n i : Int) (l : List (El tI)) (a : Int), ∀ p ∈ toIn n i a l, p.1 = n ∧ ∃ x ∈ l, x.1 = i := by
      intro n i l
      induction l with
      | nil => intro a p hp; simp [toIn] at hp
      | cons y r ih =>
        intro a p hp
        unfold toIn at hp
        split at hp
        · rename_i hy
          rcases List.mem_cons.1 hp with h | h
          · exact ⟨by rw [h], y, by simp, hy⟩
          · obtain ⟨q1, x, q2, q3⟩ := ih _ p h
            exact ⟨q1, x, List.mem_cons_of_mem _ q2, q3⟩
        · obtain ⟨q1, x, q2, q3⟩ := ih _ p hp
          exact ⟨q1, x, List.mem_cons_of_mem _ q2, q3⟩
    have h2 : ∀ (i : Int) (l : List Nd) (n : Int), ∀ p ∈ toOut i n l, ∃ j : Nat, p.1 = n + j ∧ ∃ x ∈ (Nd.ins (getE tN l j)), x.1 = i := by
      intro i l
      induction l with
      | nil => intro n p hp; simp [toOut] at hp
      | cons y r ih =>
        intro n p hp
        unfold toOut at hp
        rcases List.mem_append.1 hp with h | h
        · obtain ⟨q1, q2⟩ := h1 n i y.ins 0 p h
          exact ⟨0, by rw [q1]; simp, q2⟩
        · obtain ⟨j, q1, q2⟩ := ih _ p h
          exact ⟨j + 1, by rw [q1]; push_cast; omega, q2⟩
    obtain ⟨k, q1, q2⟩ := h2 (i : Int) g 0 p hp
    rw [e] at q1
    have : j = k := by omega
    subst this
    exact q2
  · rintro ⟨hj, x, hx, e⟩
    obtain ⟨k, hk, e2⟩ := mem_getE hx
    exact fe_in hj hk (by rw [show (Nd.ins (getE tN g j)) = (nd g (j : Int)).ins from rfl, e2]; exact e)
theorem get_app {g : List Nd} {x : Nd} {j : Nat} (h : j < g.length) : nd (g ++ [x]) (j : Int) = nd g (j : Int) := by
  unfold nd getE
  simp [List.getD_eq_getElem?_getD, List.getElem?_append_left h]
theorem get_last {g : List Nd} {x : Nd} : nd (g ++ [x]) (g.length : Int) = x := by
  unfold nd getE
  simp [List.getD_eq_getElem?_getD]
theorem hasP_false {p : Int → Bool} {l : List (El tI)} : hasP p l = false ↔ ∀ x ∈ l, p x.1 = false := by
  rw [hasP_any, List.any_eq_false]
  exact ⟨fun h x hx => by simpa using h x hx, fun h x hx => by simp [h x hx]⟩
theorem node_iff {g : List Nd} {i : Nat} (hi : i < g.length) : nodeE g (i : Int) = 0 ↔ numB (nd g (i : Int)) = true ∧ portsB g (nd g (i : Int)) = true ∧ depthB g (nd g (i : Int)) = true := by
  constructor
  · exact nodeE_0 hi
  · rintro ⟨h1, h2, h3⟩
    unfold nodeE
    rw [if_neg (by omega), h1, h2, h3]
    simp
theorem ports_iff {g : List Nd} {n : Nd} : portsB g n = true ↔ (n.ins.length : Int) = arK n.kind ∧ ∀ x ∈ n.ins, wrongB g x.1 = false := by
  unfold portsB
  cases h : ((n.ins.length : Int) == arK n.kind) with
  | true =>
    have := eq_of_beq h
    simp only [cond_true, Bool.not_eq_true', hasP_false, this, true_and]
  | false =>
    have := ne_of_beq_false h
    simp [this]
theorem wrong_iff {g : List Nd} {i : Int} : wrongB g i = false ↔ (0 ≤ i ∧ i < (g.length : Int)) ∧ (nd g i).kind ≠ 10 := by
  unfold wrongB
  by_cases h1 : i < 0
  · rw [decide_eq_true h1]; simp; omega
  · by_cases h2 : i ≥ (g.length : Int)
    · rw [decide_eq_true h2]; simp; omega
    · rw [decide_eq_false h1, decide_eq_false h2]
      simp only [cond_false, beq_eq_false_iff_ne]
      exact ⟨fun h => ⟨by omega, h⟩, fun h => h.2⟩
theorem nd_int {g : List Nd} {x : Nd} {i : Int} (h : 0 ≤ i ∧ i < (g.length : Int)) : nd (g ++ [x]) i = nd g i := by
  obtain ⟨k, rfl⟩ : ∃ k : Nat, i = k := ⟨i.toNat, by omega⟩
  exact get_app (by omega)
theorem other_iff {g : List Nd} {fed i : Int} : otherB g fed i = false ↔ (nd g i).dep = fed := by unfold otherB; simp
theorem depth_more {g : List Nd} {x n : Nd} (hin : ∀ y ∈ n.ins, 0 ≤ y.1 ∧ y.1 < (g.length : Int)) (h : depthB g n = true) : depthB (g ++ [x]) n = true := by
  unfold depthB at h ⊢
  split at h
  · cases h
  · split at h
    · cases h
    · rename_i h1 h2
      cases h3 : (bif decide (n.dep ≥ 0) then decide (n.dep ≤ 3) else false) with
      | false => rw [h3] at h; cases h
      | true =>
        rw [h3] at h
        rw [if_neg h1, if_neg h2]
        simp only [cond_true, Bool.not_eq_true', hasP_false] at h ⊢
        intro y hy
        have := h y hy
        rw [other_iff] at this ⊢
        rw [nd_int (hin y hy)]; exact this
theorem node_more {g : List Nd} {x : Nd} {i : Nat} (hi : i < g.length) (h : nodeE g (i : Int) = 0) : nodeE (g ++ [x]) (i : Int) = 0 := by
  obtain ⟨h1, h2, h3⟩ := (node_iff hi).1 h
  rw [node_iff (by simp; omega), get_app hi]
  have hp := ports_iff.1 h2
  have hin : ∀ y ∈ (nd g (i : Int)).ins, 0 ≤ y.1 ∧ y.1 < (g.length : Int) := fun y hy => (wrong_iff.1 (hp.2 y hy)).1
  refine ⟨h1, ports_iff.2 ⟨hp.1, fun y hy => ?_⟩, depth_more hin h3⟩
  have := wrong_iff.1 (hp.2 y hy)
  refine wrong_iff.2 ⟨by simp; omega, ?_⟩
  rw [nd_int this.1]; exact this.2
/-- The new node. -/
def newN (k d fr : Int) : Nd := (k, 0, 0, d, [(fr, ())], ())
theorem way_more {g : List Nd} {k fr : Int} {d least : Int} (hn : ∀ j : Nat, j < g.length → nodeE g (j : Int) = 0) (hfr : 0 ≤ fr ∧ fr < (g.length : Int)) {i j : Nat} (hj : j ≠ g.length) (h : Way (Ed (g ++ [newN k d fr]) least) i j) : Way (Ed g least) i j := by
  have hout : ∀ a b, Fe (g ++ [newN k d fr]) a b → a < g.length := fun a b hf => by
    obtain ⟨hb, x, hx, e⟩ := fe_iff.1 hf
    by_cases eb : b = g.length
    · subst eb
      rw [get_last] at hx
      have := List.mem_singleton.1 hx
      rw [this] at e
      have e : fr = (a : Int) := e
      omega
    · have hb' : b < g.length := by simp at hb; omega
      rw [get_app hb'] at hx
      obtain ⟨_, h2, _⟩ := (node_iff hb').1 (hn b hb')
      have := (wrong_iff.1 ((ports_iff.1 h2).2 x hx)).1
      rw [e] at this
      omega
  have hed : ∀ a b, b ≠ g.length → Ed (g ++ [newN k d fr]) least a b → Ed g least a b := fun a b hb he => by
    have ha := hout a b he.1
    have hb' : b < g.length := by have := fe_lt he.1; simp at this; omega
    obtain ⟨hf, s1, s2⟩ := he
    rw [get_app ha] at s1
    rw [get_app hb'] at s2
    refine ⟨?_, s1, s2⟩
    obtain ⟨_, x, hx, e⟩ := fe_iff.1 hf
    rw [get_app hb'] at hx
    exact fe_iff.2 ⟨hb', x, hx, e⟩
  induction h with
  | one r => exact .one (hed _ _ hj r)
  | more hw r ih => exact .more (ih (by have := hout _ _ r.1; omega)) (hed _ _ hj r)
theorem stuck_more {g : List Nd} {k fr : Int} {d : Int} (hn : ∀ j : Nat, j < g.length → nodeE g (j : Int) = 0) (hfr : 0 ≤ fr ∧ fr < (g.length : Int)) (hs : ¬ stuckG g < g.length) : ¬ stuckG (g ++ [newN k d fr]) < (g ++ [newN k d fr]).length := by
  intro hl
  obtain ⟨_, q2, _⟩ := stuckG_spec (g ++ [newN k d fr])
  obtain ⟨l, hl4, hb⟩ := q2 hl
  generalize stuckG (g ++ [newN k d fr]) = i at hl hb
  obtain ⟨n, hnl, hd, h1, h2⟩ := (backI_iff hl).1 hb
  have hlt : ∀ a b, Way (Ed (g ++ [newN k d fr]) (l : Int)) a b → a < g.length := fun a b hw => by
    obtain ⟨c, he⟩ := hw.first
    have hf := he.1
    obtain ⟨hb, x, hx, e⟩ := fe_iff.1 hf
    by_cases eb : c = g.length
    · subst eb
      rw [get_last] at hx
      have := List.mem_singleton.1 hx
      rw [this] at e
      have e : fr = (a : Int) := e
      omega
    · have hb' : c < g.length := by simp at hb; omega
      rw [get_app hb'] at hx
      obtain ⟨_, h2, _⟩ := (node_iff hb').1 (hn c hb')
      have := (wrong_iff.1 ((ports_iff.1 h2).2 x hx)).1
      rw [e] at this
      omega
  have hi := hlt _ _ h1
  have hn' := hlt _ _ h2
  rw [get_app hn'] at hd
  have hbk : backI g l i = true := (backI_iff hi).2 ⟨n, hn', hd, way_more hn hfr (by omega) h1, way_more hn hfr (by omega) h2⟩
  obtain ⟨p1, _, p3⟩ := stuckG_spec g
  have := p1 i (by omega) l hl4
  rw [hbk] at this; cases this
/-- A graph that may be run, with such a node more. -/
theorem check_more {g : List Nd} {k d fr : Int} (h : (checkG g).2 = 0) (hl : g.length ≤ 30) (hfr : 0 ≤ fr ∧ fr < (g.length : Int)) (hnk : (nd g fr).kind ≠ 10)
    (hk : k = 2 ∨ k = 3 ∨ k = 5 ∨ k = 8 ∨ k = 10) (hd : d = if k = 8 then (nd g fr).dep - 1 else (nd g fr).dep) (hr : (k = 8 → 0 ≤ d) ∧ (k = 10 → d = 0)) : checkG (g ++ [newN k d fr]) = ((g.length : Int) + 1, 0) := by
  obtain ⟨hf, hn, hs⟩ := check_parts h
  have hdp : 0 ≤ (nd g fr).dep ∧ (nd g fr).dep ≤ 3 := by
    obtain ⟨j, rfl⟩ : ∃ j : Nat, fr = j := ⟨fr.toNat, by omega⟩
    exact check_dep h _ (getE_mem g (by omega))
  have hd0 : 0 ≤ d ∧ d ≤ 3 := by
    rw [hd]
    split
    · rename_i e
      have := hr.1 e
      rw [hd, if_pos e] at this
      omega
    · exact hdp
  have hput : (putG g).2 = 0 := by
    by_cases h0 : (putG g).2 ≠ 0
    · rw [check_put h0] at h; exact absurd h h0
    · exact Decidable.not_not.1 h0
  obtain ⟨hp1, hp2⟩ := putG_iff.1 hput
  have e := check_of (g := g ++ [newN k d fr]) ?_ ?_ (stuck_more hn hfr hs)
  · rw [e]; simp
  · rw [putG_iff, List.all_append, hp2]
    refine ⟨by simp; omega, ?_⟩
    have e1 : mayN (newN k d fr) = true := by
      unfold mayN
      rw [hasW_eq, show Nd.dep (newN k d fr) = d from rfl, show Nd.ins (newN k d fr) = [(fr, ())] from rfl, decide_eq_true hd0.1, decide_eq_true hd0.2]
      have h1 : decide (fr < 0) = false := decide_eq_false (by omega)
      have h2 : decide (32 ≤ fr) = false := decide_eq_false (by omega)
      simp [wrongI, h1, h2]
    rw [List.all_cons, e1]; rfl
  · intro j hj
    by_cases ej : j < g.length
    · exact node_more ej (hn j ej)
    · have ej : j = g.length := by simp at hj; omega
      subst ej
      rw [node_iff (by simp), get_last]
      refine ⟨?_, ports_iff.2 ⟨?_, fun y hy => ?_⟩, ?_⟩
      · rcases hk with rfl | rfl | rfl | rfl | rfl <;> rfl
      · rcases hk with rfl | rfl | rfl | rfl | rfl <;> rfl
      · have := List.mem_singleton.1 hy
        rw [this]
        refine wrong_iff.2 ⟨by simp; omega, ?_⟩
        show (nd (g ++ [newN k d fr]) fr).kind ≠ 10
        rw [nd_int hfr]; exact hnk
      · have hfed : fedK k d = (nd g fr).dep := by
          rcases hk with rfl | rfl | rfl | rfl | rfl <;> (unfold fedK; simp at hd ⊢)
          · exact hd
          · exact hd
          · exact hd
          · rw [wrapI (by omega) (by omega)]; omega
          · exact hd
        have hot : ∀ y ∈ (newN k d fr).ins, otherB (g ++ [newN k d fr]) (fedK k d) y.1 = false := fun y hy => by
          have := List.mem_singleton.1 hy
          rw [this, other_iff, nd_int hfr, hfed]
        unfold depthB
        rw [if_neg (by
          rintro ⟨e, _⟩
          have e : k = 9 := e
          omega), if_neg (by
          rintro ⟨e, e2⟩
          have e : k = 1 ∨ k = 10 := e
          have e2 : d ≠ 0 := e2
          rcases e with e | e
          · omega
          · exact e2 (hr.2 e))]
        rw [show (newN k d fr).dep = d from rfl, show (newN k d fr).kind = k from rfl, decide_eq_true hd0.1, decide_eq_true hd0.2]
        simp only [cond_true, Bool.not_eq_true']
        exact hasP_false.2 hot
/-- A node that is not right. -/
theorem check_wrong {g : List Nd} {k d fr : Int} (hn : (k = 8 ∧ d < 0) ∨ (k = 10 ∧ d ≠ 0)) : (checkG (g ++ [newN k d fr])).2 ≠ 0 := fun h => by
  obtain ⟨_, hj, _⟩ := check_parts h
  have hdp := check_dep h (newN k d fr) (by simp)
  have := hj g.length (by simp)
  rw [node_iff (by simp), get_last] at this
  have hd3 := this.2.2
  have hdp : 0 ≤ d ∧ d ≤ 3 := hdp
  rcases hn with ⟨rfl, hd⟩ | ⟨rfl, hd⟩
  · omega
  · unfold depthB at hd3
    rw [if_neg (by rintro ⟨e, _⟩; cases e), if_pos ⟨.inr rfl, hd⟩] at hd3
    cases hd3
/-! ### The order, with a node more -/
theorem th_app {th : List (El tB)} {i : Nat} (h : i < th.length) : getE tB (th ++ [(false, ())]) i = getE tB th i := by
  unfold getE
  simp [List.getD_eq_getElem?_getD, List.getElem?_append_left h]
theorem ready_app {g : List Nd} (hin : ∀ j, j < g.length → ∀ k, k < (nd g (j : Int)).ins.length → 0 ≤ (getE tI (nd g (j : Int)).ins k).1 ∧ (getE tI (nd g (j : Int)).ins k).1 < (g.length : Int)) {th : List (El tB)} (hl : th.length = g.length) {i : Nat} (hi : i < g.length) :
    readyB (th ++ [(false, ())]) i (getE tN g i) = readyB th i (getE tN g i) := by
  rw [Bool.eq_iff_iff, ready_iff, ready_iff, th_app (by omega)]
  have hh : ∀ k, k < (Nd.ins (getE tN g i)).length → getE tB (th ++ [(false, ())]) (getE tI (Nd.ins (getE tN g i)) k).1.toNat = getE tB th (getE tI (Nd.ins (getE tN g i)) k).1.toNat := fun k hk => by
    have := hin i hi k hk
    have h2 : (getE tI (Nd.ins (getE tN g i)) k).1.toNat < th.length := by
      have e : (nd g (i : Int)).ins = Nd.ins (getE tN g i) := rfl
      rw [e] at this
      omega
    rw [th_app h2]
  constructor
  · rintro ⟨h1, h2⟩
    refine ⟨h1, h2.imp id fun h k hk => ?_⟩
    rw [← hh k hk]; exact h k hk
  · rintro ⟨h1, h2⟩
    refine ⟨h1, h2.imp id fun h k hk => ?_⟩
    rw [hh k hk]; exact h k hk
theorem nextR_app {g : List Nd} {x : Nd} (hin : ∀ j, j < g.length → ∀ k, k < (nd g (j : Int)).ins.length → 0 ≤ (getE tI (nd g (j : Int)).ins k).1 ∧ (getE tI (nd g (j : Int)).ins k).1 < (g.length : Int)) {th : List (El tB)} (hl : th.length = g.length) : ∀ (f a : Nat), a + f = g.length →
    nextR (th ++ [(false, ())]) a (g.drop a ++ [x]) = match nextR th a (g.drop a) with
      | some i => some i
      | none => if readyB (th ++ [(false, ())]) g.length x = true then some g.length else none
  | 0, a, h => by
    rw [List.drop_eq_nil_of_le (by omega)]
    have : a = g.length := by omega
    subst this
    rfl
  | f + 1, a, h => by
    rw [drop_get g (by omega : a < g.length), List.cons_append]
    show (if readyB (th ++ [(false, ())]) a (getE tN g a) = true then some a else nextR (th ++ [(false, ())]) (a + 1) (g.drop (a + 1) ++ [x])) = match (if readyB th a (getE tN g a) = true then some a else nextR th (a + 1) (g.drop (a + 1))) with
      | some i => some i
      | none => if readyB (th ++ [(false, ())]) g.length x = true then some g.length else none
    rw [ready_app hin hl (by omega)]
    by_cases hr : readyB th a (getE tN g a) = true
    · rw [if_pos hr, if_pos hr]
    · rw [if_neg hr, if_neg hr]
      exact nextR_app hin hl f (a + 1) (by omega)
theorem cntF_app (th : List (El tB)) : cntF (th ++ [(false, ())]) = cntF th + 1 := by simp [cntF]
theorem cntF_0 {th : List (El tB)} (h : cntF th = 0) {i : Nat} (hi : i < th.length) : (getE tB th i).1 = true := by
  unfold cntF at h
  rw [List.countP_eq_zero] at h
  have := h _ (getE_mem th hi)
  simpa using this
theorem ord_more {g : List Nd} {k d fr : Int} (hin : ∀ j, j < g.length → ∀ k, k < (nd g (j : Int)).ins.length → 0 ≤ (getE tI (nd g (j : Int)).ins k).1 ∧ (getE tI (nd g (j : Int)).ins k).1 < (g.length : Int))
    (hd : ∀ x : Nd, x ∈ g → 0 ≤ Nd.dep x ∧ Nd.dep x ≤ 3) (hs : ¬ stuckG g < g.length) (hfr : 0 ≤ fr ∧ fr < (g.length : Int)) : ∀ (f : Nat) (th : List (El tB)) (out : List (El tI)), th.length = g.length → cntF th = f →
    ordN (g ++ [newN k d fr]) (f + 2) (th ++ [(false, ())]) out = ordN g (f + 1) th out ++ [((g.length : Int), ())]
  | 0, th, out, hl, hc => by
    rw [ordN_s, ordN_s]
    have e := nextR_app (x := newN k d fr) hin hl g.length 0 (by omega)
    rw [List.drop_zero] at e
    rw [nextR_zero hl hc] at e
    have hrx : readyB (th ++ [(false, ())]) g.length (newN k d fr) = true := by
      rw [ready_iff]
      refine ⟨?_, .inr fun j hj => ?_⟩
      · unfold getE; simp [List.getD_eq_getElem?_getD, ← hl]
      · have ej : j = 0 := by simp [newN, Nd.ins] at hj; omega
        subst ej
        show (getE tB (th ++ [(false, ())]) fr.toNat).1 = true
        rw [th_app (by omega)]
        exact cntF_0 hc (by omega)
    rw [hrx, if_pos rfl] at e
    simp only at e
    rw [e, nextR_zero hl hc]
    simp only
    rw [ordN_s, nextR_zero (by simp [hl])]
    have := cntF_set (th ++ [(false, ())]) g.length (by simp [hl]) (by unfold getE; simp [List.getD_eq_getElem?_getD, ← hl])
    rw [cntF_app] at this
    omega
  | f + 1, th, out, hl, hc => by
    obtain ⟨i, hi⟩ := next_there hin hd hs hl (by omega)
    obtain ⟨_, h2, h3, _⟩ := nextR_some g 0 hi
    have hc2 := cntF_set th i (by omega) (ready_f h3)
    have e := nextR_app (x := newN k d fr) hin hl g.length 0 (by omega)
    rw [List.drop_zero, hi] at e
    simp only at e
    rw [ordN_s, e, ordN_s g, hi]
    simp only
    rw [show (th ++ [(false, ())]).set i (true, ()) = th.set i (true, ()) ++ [(false, ())] by rw [List.set_append_left _ _ (by omega)]]
    exact ord_more hin hd hs hfr f _ _ (by rw [List.length_set]; exact hl) (by omega)
theorem order_more {g : List Nd} {k d fr : Int} (h : (checkG g).2 = 0) (hfr : 0 ≤ fr ∧ fr < (g.length : Int)) : orderG (g ++ [newN k d fr]) = orderG g ++ [((g.length : Int), ())] := by
  obtain ⟨hf, hn, hs⟩ := check_parts h
  have e := ord_more (k := k) (d := d) (node_in hn) (check_dep h) hs hfr g.length (falseR g.length) [] (by simp [falseR]) (cntF_rep _)
  rw [orderG_eq, orderG_eq, ← e, List.length_append, List.length_cons, List.length_nil]
  congr 1
  unfold falseR
  rw [List.replicate_succ']
end Go.Proofs.Ytbgcgokikekmoaa

/- Layer 10: the statement CheckOrder. -/
namespace Go.Proofs.Ytbgcgokikekmoaa
set_option linter.unusedVariables false
set_option linter.unusedSimpArgs false
set_option maxRecDepth 100000
open Go Go.RowKit Go.Proofs.Ytbgcgokikekmoaa.Eng

/-- Which node stands at place i of an order. -/
def atO (l : List (El tI)) (i : Nat) : Int := (getE tI l i).1
theorem ord_rng {g : List Nd} {l : List (El tI)} (h : OrdOk g l) {i : Nat} (hi : i < g.length) : 0 ≤ (getE tI l i).1 ∧ (getE tI l i).1 < (g.length : Int) := by
  obtain ⟨n, e, hn, _⟩ := h.2 i hi
  rw [e]; omega
theorem ord_no {g : List Nd} {l : List (El tI)} (h : OrdOk g l) {i : Nat} (hi : i < g.length) : (bif (bif decide ((getE tI l i).1 < 0) then true else decide ((getE tI l i).1 ≥ (g.length : Int))) then true else (getE tB (thF g.length (l.take i)) (getE tI l i).1.toNat).1) = false := by
  obtain ⟨n, e, hn, hr⟩ := h.2 i hi
  rw [e, decide_eq_false (by omega), decide_eq_false (by omega)]
  exact ready_f hr
theorem ord_in {g : List Nd} {l : List (El tI)} (h : OrdOk g l) {i : Nat} (hi : i < g.length) {k : Nat} (hk : k < (Nd.ins (getE tN g (getE tI l i).1.toNat)).length) : (bif (Nd.kind (getE tN g (getE tI l i).1.toNat)) != 9 then !(getE tB (thF g.length (l.take i)) (getE tI (Nd.ins (getE tN g (getE tI l i).1.toNat)) k).1.toNat).1 else false) = false := by
  obtain ⟨n, e, hn, hr⟩ := h.2 i hi
  rw [e] at hk ⊢
  rw [show ((n : Nat) : Int).toNat = n from rfl] at hk ⊢
  obtain ⟨_, h2⟩ := ready_iff.1 hr
  rcases h2 with h2 | h2
  · rw [h2]; rfl
  · rw [h2 k hk]
    cases (Nd.kind (getE tN g n) != 9) <;> rfl
theorem ord_in2 {g : List Nd} {l : List (El tI)} (hin : ∀ j, j < g.length → ∀ k, k < (nd g (j : Int)).ins.length → 0 ≤ (getE tI (nd g (j : Int)).ins k).1 ∧ (getE tI (nd g (j : Int)).ins k).1 < (g.length : Int)) (h : OrdOk g l) {i : Nat} (hi : i < g.length) {k : Nat} (hk : k < (Nd.ins (getE tN g (getE tI l i).1.toNat)).length) : 0 ≤ (getE tI (Nd.ins (getE tN g (getE tI l i).1.toNat)) k).1 ∧ (getE tI (Nd.ins (getE tN g (getE tI l i).1.toNat)) k).1 < (g.length : Int) := by
  obtain ⟨n, e, hn, hr⟩ := h.2 i hi
  rw [e] at hk ⊢
  exact hin n hn k hk
theorem th_next {g : List Nd} {l : List (El tI)} {i : Nat} (hi : i < l.length) : thF g.length (l.take (i + 1)) = (thF g.length (l.take i)).set (getE tI l i).1.toNat (true, ()) := by
  rw [take_get l hi, thF_snoc]
theorem thF_0 (n : Nat) (l : List (El tI)) : List.replicate ((n : Nat) : Int).toNat ((false, ()) : El tB) = thF n (l.take 0) := by
  rw [List.take_zero]; rfl
theorem ordC_fst {g : List Nd} (h : (orderC g).2 = 0) : (checkG g).2 = 0 ∧ (orderC g).1 = orderG g := by
  by_cases h0 : (checkG g).2 ≠ 0
  · rw [orderC_no h0] at h; exact absurd h h0
  · rw [orderC_ok h0]; exact ⟨Decidable.not_not.1 h0, rfl⟩
theorem ordC_len {g : List Nd} : (orderC g).1.length ≤ g.length := by
  by_cases h0 : (checkG g).2 ≠ 0
  · rw [orderC_no h0]; exact Nat.zero_le _
  · rw [orderC_ok h0]
    have := (order_ok (Decidable.not_not.1 h0)).1
    show (orderG g).length ≤ _
    omega
theorem eqI_self (l : List (El tI)) : eqI l l = true := (eqI_iff l l).2 rfl
attribute [local irreducible] checkG rcheckG orderC rorderC orderG thF
def k_lorder : Sig := .arg (shR tN) fun g => .done { pre := True, res := B true }
set_option maxHeartbeats 8000000 in
theorem c_lorder : FnOk Try.prog 5 k_lorder.con := by
  refine fnOkS mixed tys_ok (cs := [(9, k_ins.con), (10, k_works.con), (17, k_Order.con), (18, k_rOrder.con), (19, k_sameI.con)]) ⟨c_ins, c_works, c_Order, c_rOrder, c_sameI, trivial⟩ Try.func5 rfl (by kernel_rfl) Try.ntmps5 _ (h := ?_)
  intro g
  refine ⟨rfl, fun _ => ?_⟩
  conv => whnf
  repeat' ((first
    | with_reducible refine ⟨fun h => h, ?_⟩
    | with_reducible refine ⟨pk1, ?_⟩
    | with_reducible refine ⟨pk2, ?_⟩
    | with_reducible refine ⟨pk3, ?_⟩
    | with_reducible refine ⟨pk4, ?_⟩
    | with_reducible refine ⟨pk5, ?_⟩
    | with_reducible refine ⟨pk6, ?_⟩
    | with_reducible refine ⟨trivial, ?_⟩
    | with_reducible refine ⟨fun _ => trivial, ?_⟩
    | with_reducible refine ⟨rfl, ?_⟩
    | with_reducible refine every_i (fun hd => ?_)
    | with_reducible refine fork_t (by assumption) ?_
    | with_reducible refine fork_f (by assumption) ?_
    | refine fork_t rfl ?_
    | refine fork_f rfl ?_
    | with_reducible refine fork_i (fun h => ?_) (fun h => ?_)
    | with_reducible refine both_i ?_ ?_
    | ((with_reducible refine alike_i ?_); exact ⟨rfl, rfl, rfl⟩)
    | ((with_reducible refine fin_i ?_); (conv => whnf); refine ⟨rfl, ?_⟩)
    | refine ⟨of_decide_eq_true rfl, ?_⟩
    | refine ⟨fun _ => of_decide_eq_true rfl, ?_⟩
    | ((with_reducible refine ⟨?_, ?_⟩); (focus (intros; simp_all; done)))
    | ((with_reducible refine ⟨?_, ?_⟩); (focus (intros; omega)))) <;> (try (conv => whnf)))
  · all_goals ((with_reducible refine leaf_i ?_); (conv => whnf))
    repeat' ((with_reducible refine And.intro ?_ ?_) <;> (try (conv => whnf)))
    all_goals (try (first | with_reducible rfl | exact True.intro | rfl | exact id | exact fun h => h | exact fun _ => rfl))
  · have hb : insG g 36 = true := by
      have h' : (!insG g 36) = false := h
      simpa using h'
    obtain ⟨hf, hl, hx⟩ := ins_fit hb (by decide)
    have hw := ins_wide hb (by decide)
    have hol := ordC_len (g := g)
    have hol2 : (orderC g).1.length < 4611686018427387904 := by omega
    have hmk : (0 : Int) ≤ (g.length : Int) ∧ (g.length : Int) ≤ (g.length : Int) ∧ (g.length : Int) ≤ 1000000000 := by omega
    have hfalse : (bif ((orderC g).2 != (rorderC g).2) then true else !eqI (orderC g).1 (rorderC g).1) = false := by
      rw [order_same, eqI_self]; simp
    conv => whnf
    repeat' ((first
      | with_reducible refine ⟨fun h => h, ?_⟩
      | with_reducible refine ⟨pk1, ?_⟩
      | with_reducible refine ⟨pk2, ?_⟩
      | with_reducible refine ⟨pk3, ?_⟩
      | with_reducible refine ⟨pk4, ?_⟩
      | with_reducible refine ⟨pk5, ?_⟩
      | with_reducible refine ⟨pk6, ?_⟩
      | with_reducible refine ⟨trivial, ?_⟩
      | with_reducible refine ⟨fun _ => trivial, ?_⟩
      | with_reducible refine ⟨rfl, ?_⟩
      | with_reducible refine every_i (fun hd => ?_)
      | with_reducible refine fork_t (by assumption) ?_
      | with_reducible refine fork_f (by assumption) ?_
      | refine fork_t rfl ?_
      | refine fork_f rfl ?_
      | with_reducible refine fork_i (fun h => ?_) (fun h => ?_)
      | with_reducible refine both_i ?_ ?_
      | ((with_reducible refine alike_i ?_); exact ⟨rfl, rfl, rfl⟩)
      | ((with_reducible refine fin_i ?_); (conv => whnf); refine ⟨rfl, ?_⟩)
      | refine ⟨hf, ?_⟩
      | refine ⟨fun _ => hf, ?_⟩
      | refine ⟨hw, ?_⟩
      | refine ⟨fun _ => hol2, ?_⟩
      | refine fork_f hfalse ?_
      | refine ⟨hmk, ?_⟩
      | refine ⟨of_decide_eq_true rfl, ?_⟩
      | refine ⟨fun _ => of_decide_eq_true rfl, ?_⟩
      | ((with_reducible refine ⟨?_, ?_⟩); (focus (intros; simp_all; done)))
      | ((with_reducible refine ⟨?_, ?_⟩); (focus (intros; omega)))) <;> (try (conv => whnf)))
    · all_goals ((with_reducible refine leaf_i ?_); (conv => whnf))
      repeat' ((with_reducible refine And.intro ?_ ?_) <;> (try (conv => whnf)))
      all_goals (try (first | with_reducible rfl | exact True.intro | rfl | exact id | exact fun h => h | exact fun _ => rfl))
    · have he : (orderC g).2 = 0 := by
        have h' : ((orderC g).2 != 0) = false := by assumption
        simpa using h'
      obtain ⟨hc, e1⟩ := ordC_fst he
      have hok := order_ok hc
      have hin := node_in (check_parts hc).2.1
      rw [← e1] at hok
      have hll := hok.1
      refine only [3, 7, 0] ?_
      (conv => whnf)
      refine looped (σ := Nat) (fun i => [(8, I i)]) (fun i => [.row true tB 4 (thF g.length ((orderC g).1.take i))]) (fun i => i ≤ g.length) (fun i => g.length - i) 0 (Nat.zero_le _) ?_ ?_
      · conv => whnf
        refine ⟨rfl, leaf_i ?_⟩
        repeat' ((with_reducible refine And.intro ?_ ?_) <;> (try (conv => whnf)))
        all_goals (try (first | with_reducible rfl | exact True.intro | rfl | exact id | exact fun h => h | exact fun _ => rfl))
        all_goals (first | exact thF_0 _ _ | trace_state)
      · rintro i hi
        dsimp only at hi ⊢
        have hno : decide ((i : Int) < ((orderC g).1.length : Int)) = true → _ = false := fun h => ord_no hok (i := i) (by have := lt_t h; omega)
        have hrg : decide ((i : Int) < ((orderC g).1.length : Int)) = true → 0 ≤ (getE tI (orderC g).1 i).1 ∧ (getE tI (orderC g).1 i).1 < (g.length : Int) := fun h => ord_rng hok (i := i) (by have := lt_t h; omega)
        have hil : decide ((i : Int) < ((orderC g).1.length : Int)) = true → 0 ≤ (i : Int) ∧ (i : Int) < ((orderC g).1.length : Int) := fun h => by have := lt_t h; omega
        conv => whnf
        repeat' ((first
          | refine fork_f (hno (by assumption)) ?_
          | with_reducible refine ⟨fun h => h, ?_⟩
          | with_reducible refine ⟨pk1, ?_⟩
          | with_reducible refine ⟨pk2, ?_⟩
          | with_reducible refine ⟨pk3, ?_⟩
          | with_reducible refine ⟨pk4, ?_⟩
          | with_reducible refine ⟨pk5, ?_⟩
          | with_reducible refine ⟨pk6, ?_⟩
          | with_reducible refine ⟨trivial, ?_⟩
          | with_reducible refine ⟨fun _ => trivial, ?_⟩
          | with_reducible refine ⟨rfl, ?_⟩
          | with_reducible refine every_i (fun hd => ?_)
          | with_reducible refine fork_t (by assumption) ?_
          | with_reducible refine fork_f (by assumption) ?_
          | refine fork_t rfl ?_
          | refine fork_f rfl ?_
          | with_reducible refine fork_i (fun h => ?_) (fun h => ?_)
          | with_reducible refine both_i ?_ ?_
          | ((with_reducible refine alike_i ?_); exact ⟨rfl, rfl, rfl⟩)
          | ((with_reducible refine fin_i ?_); (conv => whnf); refine ⟨rfl, ?_⟩)
          | refine ⟨hil (by assumption), ?_⟩
          | refine ⟨fun _ => hil (by assumption), ?_⟩
          | refine ⟨hrg (by assumption), ?_⟩
          | refine ⟨fun _ => hrg (by assumption), ?_⟩
          | refine ⟨of_decide_eq_true rfl, ?_⟩
          | refine ⟨fun _ => of_decide_eq_true rfl, ?_⟩
          | ((with_reducible refine ⟨?_, ?_⟩); (focus (intros; simp_all; done)))
          | ((with_reducible refine ⟨?_, ?_⟩); (focus (intros; omega)))) <;> (try (conv => whnf)))
        · have hi' : i < g.length := by have := lt_t (by assumption : decide ((i : Int) < ((orderC g).1.length : Int)) = true); omega
          have hrg := hrg (by assumption)
          have hil := hil (by assumption)
          refine only [3, 7, 8, 9, 0] ?_
          (conv => whnf)
          refine looped (σ := Nat) (fun k => [(10, I k)]) (fun k => [.row true tB 4 (thF g.length ((orderC g).1.take i)), .cells (ndC false (getE tN g (getE tI (orderC g).1 i).1.toNat))]) (fun k => k ≤ (Nd.ins (getE tN g (getE tI (orderC g).1 i).1.toNat)).length) (fun k => (Nd.ins (getE tN g (getE tI (orderC g).1 i).1.toNat)).length - k) 0 (Nat.zero_le _) ?_ ?_
          · conv => whnf
            refine ⟨rfl, leaf_i ?_⟩
            repeat' ((with_reducible refine And.intro ?_ ?_) <;> (try (conv => whnf)))
            all_goals (try (first | with_reducible rfl | exact True.intro | rfl | exact id | exact fun h => h | exact fun _ => rfl))
            all_goals (first | rfl | trace_state)
          · rintro k hk
            dsimp only at hk ⊢
            have hkl : decide ((k : Int) < ((Nd.ins (getE tN g (getE tI (orderC g).1 i).1.toNat)).length : Int)) = true → 0 ≤ (k : Int) ∧ (k : Int) < ((Nd.ins (getE tN g (getE tI (orderC g).1 i).1.toNat)).length : Int) := fun h => by have := lt_t h; omega
            have hkr : decide ((k : Int) < ((Nd.ins (getE tN g (getE tI (orderC g).1 i).1.toNat)).length : Int)) = true → _ := fun h => ord_in2 hin hok hi' (k := k) (lt_t h)
            have hkn : decide ((k : Int) < ((Nd.ins (getE tN g (getE tI (orderC g).1 i).1.toNat)).length : Int)) = true → _ := fun h => ord_in hok hi' (k := k) (lt_t h)
            conv => whnf
            repeat' ((first
              | refine fork_f (hkn (by assumption)) ?_
              | with_reducible refine ⟨fun h => h, ?_⟩
              | with_reducible refine ⟨pk1, ?_⟩
              | with_reducible refine ⟨pk2, ?_⟩
              | with_reducible refine ⟨pk3, ?_⟩
              | with_reducible refine ⟨pk4, ?_⟩
              | with_reducible refine ⟨pk5, ?_⟩
              | with_reducible refine ⟨pk6, ?_⟩
              | with_reducible refine ⟨trivial, ?_⟩
              | with_reducible refine ⟨fun _ => trivial, ?_⟩
              | with_reducible refine ⟨rfl, ?_⟩
              | with_reducible refine every_i (fun hd => ?_)
              | with_reducible refine fork_t (by assumption) ?_
              | with_reducible refine fork_f (by assumption) ?_
              | refine fork_t rfl ?_
              | refine fork_f rfl ?_
              | with_reducible refine fork_i (fun h => ?_) (fun h => ?_)
              | with_reducible refine both_i ?_ ?_
              | ((with_reducible refine alike_i ?_); exact ⟨rfl, rfl, rfl⟩)
              | ((with_reducible refine fin_i ?_); (conv => whnf); refine ⟨rfl, ?_⟩)
              | refine ⟨hkl (by assumption), ?_⟩
              | refine ⟨fun _ => hkl (by assumption), ?_⟩
              | refine ⟨hkr (by assumption), ?_⟩
              | refine ⟨fun _ => hkr (by assumption), ?_⟩
              | refine ⟨hil, ?_⟩
              | refine ⟨hrg, ?_⟩
              | refine ⟨of_decide_eq_true rfl, ?_⟩
              | refine ⟨fun _ => of_decide_eq_true rfl, ?_⟩
              | ((with_reducible refine ⟨?_, ?_⟩); (focus (intros; simp_all; done)))
              | ((with_reducible refine ⟨?_, ?_⟩); (focus (intros; omega)))) <;> (try (conv => whnf)))
            · have hk' := lt_t (by assumption : decide ((k : Int) < ((Nd.ins (getE tN g (getE tI (orderC g).1 i).1.toNat)).length : Int)) = true)
              have hins := hf.2 _ (getE_mem g (show (getE tI (orderC g).1 i).1.toNat < g.length by omega))
              refine next_i (k + 1) hk' (by omega) rfl rfl ?_
              conv => whnf
              refine ⟨rfl, leaf_i ?_⟩
              repeat' ((with_reducible refine And.intro ?_ ?_) <;> (try (conv => whnf)))
              all_goals (try (first | with_reducible rfl | exact True.intro | rfl | exact id | exact fun h => h | exact fun _ => rfl))
              all_goals (try (first | rfl | exact wrapS (by omega)))
            · refine next_i (i + 1) hi' (by omega) rfl rfl ?_
              conv => whnf
              refine ⟨rfl, leaf_i ?_⟩
              repeat' ((with_reducible refine And.intro ?_ ?_) <;> (try (conv => whnf)))
              all_goals (try (first | with_reducible rfl | exact True.intro | rfl | exact id | exact fun h => h | exact fun _ => rfl))
              all_goals (try (first | exact th_next (by omega) | exact (th_next (by omega)).symm | exact wrapS (by omega)))
        · all_goals ((with_reducible refine leaf_i ?_); (conv => whnf))
          repeat' ((with_reducible refine And.intro ?_ ?_) <;> (try (conv => whnf)))
          all_goals (try (first | with_reducible rfl | exact True.intro | rfl | exact id | exact fun h => h | exact fun _ => rfl))
          all_goals (first | rfl | (rw [hll, beq_self_eq_true]; rfl) | trace_state)
end Go.Proofs.Ytbgcgokikekmoaa

/- Layer 10: the statement CheckParts. -/
namespace Go.Proofs.Ytbgcgokikekmoaa
set_option linter.unusedVariables false
set_option linter.unusedSimpArgs false
set_option maxRecDepth 100000
open Go Go.RowKit Go.Proofs.Ytbgcgokikekmoaa.Eng

def thr (g : List Nd) (l : List (El tI)) (i m : Nat) : Bool := (getE tB (thF g.length (l.take i)) m).1
/-- How deep nodes are, i of them being there. -/
def PI (g : List Nd) (l : List (El tI)) (i : Nat) (D : List (El tI)) : Prop :=
  D.length = g.length ∧ ∀ m, m < g.length → 0 ≤ (getE tI D m).1 ∧ (thr g l i m = true → (getE tI D m).1 + 1 ≤ i) ∧ (thr g l i m = false → (getE tI D m).1 = 0)
def PJ (g : List Nd) (l : List (El tI)) (i a : Nat) (D : List (El tI)) : Prop :=
  D.length = g.length ∧ ∀ m, m < g.length → 0 ≤ (getE tI D m).1 ∧ (m ≠ a → (thr g l i m = true → (getE tI D m).1 + 1 ≤ i) ∧ (thr g l i m = false → (getE tI D m).1 = 0)) ∧ (m = a → (getE tI D m).1 ≤ i)
theorem getI_set {D : List (El tI)} {a : Nat} {x : Int} (h : a < D.length) (m : Nat) : (getE tI (D.set a (x, ())) m).1 = if m = a then x else (getE tI D m).1 := by
  unfold getE
  simp only [List.getD_eq_getElem?_getD, List.getElem?_set]
  by_cases e : a = m
  · subst e; simp [h]
  · rw [if_neg e, if_neg (fun x => e x.symm)]
theorem pi_0 (g : List Nd) (l : List (El tI)) : PI g l 0 (List.replicate ((g.length : Nat) : Int).toNat ((0, ()) : El tI)) := by
  refine ⟨List.length_replicate, fun m hm => ?_⟩
  have e : (getE tI (List.replicate ((g.length : Nat) : Int).toNat ((0, ()) : El tI)) m).1 = 0 := by
    unfold getE
    rw [List.getD_eq_getElem?_getD, List.getElem?_replicate]
    split <;> rfl
  rw [e]
  refine ⟨Int.le_refl _, fun h => ?_, fun _ => rfl⟩
  exfalso
  unfold thr getE at h
  rw [List.take_zero] at h
  rw [List.getD_eq_getElem?_getD, show thF g.length [] = falseR g.length from rfl] at h
  unfold falseR at h
  rw [List.getElem?_replicate] at h
  split at h <;> cases h
theorem pi_pj {g : List Nd} {l : List (El tI)} {i a : Nat} {D : List (El tI)} (h : PI g l i D) (ha : thr g l i a = false) : PJ g l i a D :=
  ⟨h.1, fun m hm => ⟨(h.2 m hm).1, fun _ => (h.2 m hm).2, fun e => by
    subst e
    rw [(h.2 m hm).2.2 ha]; omega⟩⟩
theorem pj_s {g : List Nd} {l : List (El tI)} {i a b : Nat} {D : List (El tI)} (h : PJ g l i a D) (ha : a < g.length) (hb : b < g.length) (hab : b ≠ a) (htb : thr g l i b = true) (hi : i < 4611686018427387904) :
    PJ g l i a (D.set a ((if IntKind.i64.wrap ((getE tI D b).1 + 1) > (getE tI D a).1 then IntKind.i64.wrap ((getE tI D b).1 + 1) else (getE tI D a).1), ())) := by
  have hB := h.2 b hb
  have hB2 := (hB.2.1 hab).1 htb
  have hA := h.2 a ha
  have hA2 := hA.2.2 rfl
  rw [wrapI (x := (getE tI D b).1 + 1) (by omega) (by omega)]
  refine ⟨by rw [List.length_set]; exact h.1, fun m hm => ?_⟩
  rw [getI_set (by rw [h.1]; exact ha)]
  by_cases e : m = a
  · rw [if_pos e]
    refine ⟨?_, fun hne => absurd e hne, fun _ => ?_⟩
    · split <;> omega
    · split <;> omega
  · rw [if_neg e]
    exact ⟨(h.2 m hm).1, (h.2 m hm).2.1, fun e' => absurd e' e⟩
theorem pj_s' {g : List Nd} {l : List (El tI)} {i a a' b : Nat} {D : List (El tI)} (e : a' = a) (h : PJ g l i a D) (ha : a < g.length) (hb : b < g.length) (hab : b ≠ a) (htb : thr g l i b = true) (hi : i < 4611686018427387904) :
    PJ g l i a (D.set a' ((if IntKind.i64.wrap ((getE tI D b).1 + 1) > (getE tI D a').1 then IntKind.i64.wrap ((getE tI D b).1 + 1) else (getE tI D a').1), ())) := by
  subst e; exact pj_s h ha hb hab htb hi
theorem thr_next {g : List Nd} {l : List (El tI)} {i a m : Nat} (hi : i < l.length) (e : (getE tI l i).1 = (a : Int)) (ha : a < g.length) : thr g l (i + 1) m = if m = a then true else thr g l i m := by
  unfold thr
  rw [th_next hi, e]
  unfold getE
  simp only [List.getD_eq_getElem?_getD, List.getElem?_set]
  by_cases em : a = m
  · subst em
    have : a < (thF g.length (l.take i)).length := by rw [thF_len]; exact ha
    simp [this]
  · rw [if_neg (show ¬ ((a : Nat) : Int).toNat = m from em), if_neg (fun x => em x.symm)]
theorem pj_pi {g : List Nd} {l : List (El tI)} {i a : Nat} {D : List (El tI)} (h : PJ g l i a D) (hi : i < l.length) (e : (getE tI l i).1 = (a : Int)) (ha : a < g.length) : PI g l (i + 1) D := by
  refine ⟨h.1, fun m hm => ?_⟩
  rw [thr_next hi e ha]
  have hM := h.2 m hm
  refine ⟨hM.1, ?_, ?_⟩
  · by_cases em : m = a
    · intro _; have := hM.2.2 em; push_cast; omega
    · rw [if_neg em]
      intro ht
      have := (hM.2.1 em).1 ht
      push_cast; omega
  · by_cases em : m = a
    · rw [if_pos em]; intro hc; cases hc
    · rw [if_neg em]; exact (hM.2.1 em).2
attribute [local irreducible] checkG orderC orderG thF nodeE PI PJ
def k_lparts : Sig := .arg (shR tN) fun g => .done { pre := True, res := B true }
set_option maxHeartbeats 8000000 in
theorem c_lparts : FnOk Try.prog 7 k_lparts.con := by
  refine fnOkS mixed tys_ok (cs := [(9, k_ins.con), (10, k_works.con), (15, k_check.con), (12, k_node.con), (17, k_Order.con)]) ⟨c_ins, c_works, c_check, c_node, c_Order, trivial⟩ Try.func7 rfl (by kernel_rfl) Try.ntmps7 _ (h := ?_)
  intro g
  refine ⟨rfl, fun _ => ?_⟩
  conv => whnf
  repeat' ((first
    | with_reducible refine ⟨fun h => h, ?_⟩
    | with_reducible refine ⟨pk1, ?_⟩
    | with_reducible refine ⟨pk2, ?_⟩
    | with_reducible refine ⟨pk3, ?_⟩
    | with_reducible refine ⟨pk4, ?_⟩
    | with_reducible refine ⟨pk5, ?_⟩
    | with_reducible refine ⟨pk6, ?_⟩
    | with_reducible refine ⟨trivial, ?_⟩
    | with_reducible refine ⟨fun _ => trivial, ?_⟩
    | with_reducible refine ⟨rfl, ?_⟩
    | with_reducible refine every_i (fun hd => ?_)
    | with_reducible refine fork_t (by assumption) ?_
    | with_reducible refine fork_f (by assumption) ?_
    | refine fork_t rfl ?_
    | refine fork_f rfl ?_
    | with_reducible refine fork_i (fun h => ?_) (fun h => ?_)
    | with_reducible refine both_i ?_ ?_
    | ((with_reducible refine alike_i ?_); exact ⟨rfl, rfl, rfl⟩)
    | ((with_reducible refine fin_i ?_); (conv => whnf); refine ⟨rfl, ?_⟩)
    | refine ⟨of_decide_eq_true rfl, ?_⟩
    | refine ⟨fun _ => of_decide_eq_true rfl, ?_⟩
    | ((with_reducible refine ⟨?_, ?_⟩); (focus (intros; simp_all; done)))
    | ((with_reducible refine ⟨?_, ?_⟩); (focus (intros; omega)))) <;> (try (conv => whnf)))
  · all_goals ((with_reducible refine leaf_i ?_); (conv => whnf))
    repeat' ((with_reducible refine And.intro ?_ ?_) <;> (try (conv => whnf)))
    all_goals (try (first | with_reducible rfl | exact True.intro | rfl | exact id | exact fun h => h | exact fun _ => rfl))
  · have hb : insG g 30 = true := by
      have h' : (!insG g 30) = false := h
      simpa using h'
    obtain ⟨hf, hl, hx⟩ := ins_fit hb (by decide)
    have hw := ins_wide hb (by decide)
    have hmk : (0 : Int) ≤ (g.length : Int) ∧ (g.length : Int) ≤ (g.length : Int) ∧ (g.length : Int) ≤ 1000000000 := by omega
    conv => whnf
    repeat' ((first
      | with_reducible refine ⟨fun h => h, ?_⟩
      | with_reducible refine ⟨pk1, ?_⟩
      | with_reducible refine ⟨pk2, ?_⟩
      | with_reducible refine ⟨pk3, ?_⟩
      | with_reducible refine ⟨pk4, ?_⟩
      | with_reducible refine ⟨pk5, ?_⟩
      | with_reducible refine ⟨pk6, ?_⟩
      | with_reducible refine ⟨trivial, ?_⟩
      | with_reducible refine ⟨fun _ => trivial, ?_⟩
      | with_reducible refine ⟨rfl, ?_⟩
      | with_reducible refine every_i (fun hd => ?_)
      | with_reducible refine fork_t (by assumption) ?_
      | with_reducible refine fork_f (by assumption) ?_
      | refine fork_t rfl ?_
      | refine fork_f rfl ?_
      | with_reducible refine fork_i (fun h => ?_) (fun h => ?_)
      | with_reducible refine both_i ?_ ?_
      | ((with_reducible refine alike_i ?_); exact ⟨rfl, rfl, rfl⟩)
      | ((with_reducible refine fin_i ?_); (conv => whnf); refine ⟨rfl, ?_⟩)
      | refine ⟨hw, ?_⟩
      | refine ⟨hmk, ?_⟩
      | refine ⟨of_decide_eq_true rfl, ?_⟩
      | refine ⟨fun _ => of_decide_eq_true rfl, ?_⟩
      | ((with_reducible refine ⟨?_, ?_⟩); (focus (intros; simp_all; done)))
      | ((with_reducible refine ⟨?_, ?_⟩); (focus (intros; omega)))) <;> (try (conv => whnf)))
    · all_goals ((with_reducible refine leaf_i ?_); (conv => whnf))
      repeat' ((with_reducible refine And.intro ?_ ?_) <;> (try (conv => whnf)))
      all_goals (try (first | with_reducible rfl | exact True.intro | rfl | exact id | exact fun h => h | exact fun _ => rfl))
    · have hc : (checkG g).2 = 0 := by
        have h' : ((checkG g).2 != 0) = false := by assumption
        simpa using h'
      have e1 : (orderC g).1 = orderG g := by rw [orderC_ok (by rw [hc]; simp)]
      have hok := order_ok hc
      have hpar := check_parts hc
      have hin := node_in hpar.2.1
      rw [← e1] at hok
      have hll := hok.1
      have hsm := hpar.1.1
      refine only [6, 5, 0] ?_
      (conv => whnf)
      refine looped (σ := Nat × List (El tI)) (fun x => [(8, I x.1)]) (fun x => [.row true tI 3 x.2]) (fun x => x.1 ≤ g.length ∧ PI g (orderC g).1 x.1 x.2) (fun x => g.length - x.1) (0, List.replicate ((g.length : Nat) : Int).toNat (0, ())) ⟨Nat.zero_le _, pi_0 _ _⟩ ?_ ?_
      · conv => whnf
        refine ⟨rfl, leaf_i ?_⟩
        repeat' ((with_reducible refine And.intro ?_ ?_) <;> (try (conv => whnf)))
        all_goals (try (first | with_reducible rfl | exact True.intro | rfl | exact id | exact fun h => h | exact fun _ => rfl))
      · rintro ⟨i, D⟩ ⟨hi, hD⟩
        dsimp only at hi hD ⊢
        have hD1 : D.length = g.length := by unfold PI at hD; exact hD.1
        have hil : decide ((i : Int) < ((orderC g).1.length : Int)) = true → 0 ≤ (i : Int) ∧ (i : Int) < ((orderC g).1.length : Int) := fun h => by have := lt_t h; omega
        have hrg : decide ((i : Int) < ((orderC g).1.length : Int)) = true → 0 ≤ (getE tI (orderC g).1 i).1 ∧ (getE tI (orderC g).1 i).1 < (g.length : Int) := fun h => ord_rng hok (i := i) (by have := lt_t h; omega)
        have hnd : decide ((i : Int) < ((orderC g).1.length : Int)) = true → (nodeE g (getE tI (orderC g).1 i).1 != 0) = false := fun h => by
          obtain ⟨n, e, hn, _⟩ := hok.2 i (by have := lt_t h; omega)
          rw [e, hpar.2.1 n hn]; rfl
        conv => whnf
        repeat' ((first
          | refine fork_f (hnd (by assumption)) ?_
          | with_reducible refine ⟨fun h => h, ?_⟩
          | with_reducible refine ⟨pk1, ?_⟩
          | with_reducible refine ⟨pk2, ?_⟩
          | with_reducible refine ⟨pk3, ?_⟩
          | with_reducible refine ⟨pk4, ?_⟩
          | with_reducible refine ⟨pk5, ?_⟩
          | with_reducible refine ⟨pk6, ?_⟩
          | with_reducible refine ⟨trivial, ?_⟩
          | with_reducible refine ⟨fun _ => trivial, ?_⟩
          | with_reducible refine ⟨rfl, ?_⟩
          | with_reducible refine every_i (fun hd => ?_)
          | with_reducible refine fork_t (by assumption) ?_
          | with_reducible refine fork_f (by assumption) ?_
          | refine fork_t rfl ?_
          | refine fork_f rfl ?_
          | with_reducible refine fork_i (fun h => ?_) (fun h => ?_)
          | with_reducible refine both_i ?_ ?_
          | ((with_reducible refine alike_i ?_); exact ⟨rfl, rfl, rfl⟩)
          | ((with_reducible refine fin_i ?_); (conv => whnf); refine ⟨rfl, ?_⟩)
          | refine ⟨hil (by assumption), ?_⟩
          | refine ⟨hrg (by assumption), ?_⟩
          | refine ⟨hw, ?_⟩
          | refine ⟨of_decide_eq_true rfl, ?_⟩
          | refine ⟨fun _ => of_decide_eq_true rfl, ?_⟩
          | ((with_reducible refine ⟨?_, ?_⟩); (focus (intros; simp_all; done)))
          | ((with_reducible refine ⟨?_, ?_⟩); (focus (intros; omega)))) <;> (try (conv => whnf)))
        · have hi' : i < g.length := by have := lt_t (by assumption : decide ((i : Int) < ((orderC g).1.length : Int)) = true); omega
          have hrg := hrg (by assumption)
          have hil := hil (by assumption)
          obtain ⟨a, ea, ha, hra⟩ := hok.2 i hi'
          have htha : thr g (orderC g).1 i a = false := ready_f hra
          have hrd : (getE tI (orderC g).1 i).1.toNat < g.length := by omega
          have hins := hf.2 _ (getE_mem g hrd)
          refine only [6, 5, 8, 9, 0] ?_
          (conv => whnf)
          refine looped (σ := Nat × List (El tI)) (fun x => [(10, I x.1)]) (fun x => [.row true tI 3 x.2, .cells (ndC false (getE tN g (getE tI (orderC g).1 i).1.toNat))]) (fun x => x.1 ≤ (Nd.ins (getE tN g (getE tI (orderC g).1 i).1.toNat)).length ∧ x.2.length = g.length ∧ PJ g (orderC g).1 i a x.2) (fun x => (Nd.ins (getE tN g (getE tI (orderC g).1 i).1.toNat)).length - x.1) (0, D) ⟨Nat.zero_le _, hD1, pi_pj hD htha⟩ ?_ ?_
          · conv => whnf
            refine ⟨rfl, leaf_i ?_⟩
            repeat' ((with_reducible refine And.intro ?_ ?_) <;> (try (conv => whnf)))
            all_goals (try (first | with_reducible rfl | exact True.intro | rfl | exact id | exact fun h => h | exact fun _ => rfl))
            all_goals (first | rfl | trace_state)
          · rintro ⟨k, D2⟩ ⟨hk, hD2, hJ⟩
            dsimp only at hk hD2 hJ ⊢
            have hkl : decide ((k : Int) < ((Nd.ins (getE tN g (getE tI (orderC g).1 i).1.toNat)).length : Int)) = true → 0 ≤ (k : Int) ∧ (k : Int) < ((Nd.ins (getE tN g (getE tI (orderC g).1 i).1.toNat)).length : Int) := fun h => by have := lt_t h; omega
            have hkr : decide ((k : Int) < ((Nd.ins (getE tN g (getE tI (orderC g).1 i).1.toNat)).length : Int)) = true → 0 ≤ (getE tI (Nd.ins (getE tN g (getE tI (orderC g).1 i).1.toNat)) k).1 ∧ (getE tI (Nd.ins (getE tN g (getE tI (orderC g).1 i).1.toNat)) k).1 < (g.length : Int) := fun h => ord_in2 hin hok hi' (k := k) (lt_t h)
            have hgt : decide ((getE tI D2 (getE tI (orderC g).1 i).1.toNat).1 > (i : Int)) = false := by
              unfold PJ at hJ
              have := (hJ.2 a ha).2.2 rfl
              rw [ea]
              exact decide_eq_false (by rw [show ((a : Nat) : Int).toNat = a from rfl]; omega)
            conv => whnf
            repeat' ((first
              | refine fork_f hgt ?_
              | with_reducible refine ⟨fun h => h, ?_⟩
              | with_reducible refine ⟨pk1, ?_⟩
              | with_reducible refine ⟨pk2, ?_⟩
              | with_reducible refine ⟨pk3, ?_⟩
              | with_reducible refine ⟨pk4, ?_⟩
              | with_reducible refine ⟨pk5, ?_⟩
              | with_reducible refine ⟨pk6, ?_⟩
              | with_reducible refine ⟨trivial, ?_⟩
              | with_reducible refine ⟨fun _ => trivial, ?_⟩
              | with_reducible refine ⟨rfl, ?_⟩
              | with_reducible refine every_i (fun hd => ?_)
              | with_reducible refine fork_t (by assumption) ?_
              | with_reducible refine fork_f (by assumption) ?_
              | refine fork_t rfl ?_
              | refine fork_f rfl ?_
              | with_reducible refine fork_i (fun h => ?_) (fun h => ?_)
              | with_reducible refine both_i ?_ ?_
              | ((with_reducible refine alike_i ?_); exact ⟨rfl, rfl, rfl⟩)
              | ((with_reducible refine fin_i ?_); (conv => whnf); refine ⟨rfl, ?_⟩)
              | refine ⟨hkl (by assumption), ?_⟩
              | refine ⟨hkr (by assumption), ?_⟩
              | refine ⟨hrg, ?_⟩
              | refine ⟨hil, ?_⟩
              | refine ⟨of_decide_eq_true rfl, ?_⟩
              | refine ⟨fun _ => of_decide_eq_true rfl, ?_⟩
              | ((with_reducible refine ⟨?_, ?_⟩); (focus (intros; simp_all; done)))
              | ((with_reducible refine ⟨?_, ?_⟩); (focus (intros; omega)))) <;> (try (conv => whnf)))
            · have hk' := lt_t (by assumption : decide ((k : Int) < ((Nd.ins (getE tN g (getE tI (orderC g).1 i).1.toNat)).length : Int)) = true)
              have hkr := hkr (by assumption)
              have h9 : (Nd.kind (getE tN g (getE tI (orderC g).1 i).1.toNat) != 9) = true := by assumption
              have hno := ord_in hok hi' (k := k) hk'
              rw [h9] at hno
              have hth : thr g (orderC g).1 i (getE tI (Nd.ins (getE tN g (getE tI (orderC g).1 i).1.toNat)) k).1.toNat = true := by
                have hno : (!(getE tB (thF g.length ((orderC g).1.take i)) (getE tI (Nd.ins (getE tN g (getE tI (orderC g).1 i).1.toNat)) k).1.toNat).1) = false := hno
                simpa [thr] using hno
              have hab : (getE tI (Nd.ins (getE tN g (getE tI (orderC g).1 i).1.toNat)) k).1.toNat ≠ a := fun e => by
                rw [e, htha] at hth; cases hth
              have ea2 : (getE tI (orderC g).1 i).1.toNat = a := by rw [ea]; rfl
              have hnew := pj_s' ea2 hJ ha (by omega) hab hth (by omega)
              have hnl : (D2.set (getE tI (orderC g).1 i).1.toNat ((if IntKind.i64.wrap ((getE tI D2 (getE tI (Nd.ins (getE tN g (getE tI (orderC g).1 i).1.toNat)) k).1.toNat).1 + 1) > (getE tI D2 (getE tI (orderC g).1 i).1.toNat).1 then IntKind.i64.wrap ((getE tI D2 (getE tI (Nd.ins (getE tN g (getE tI (orderC g).1 i).1.toNat)) k).1.toNat).1 + 1) else (getE tI D2 (getE tI (orderC g).1 i).1.toNat).1), ())).length = g.length := by rw [List.length_set]; exact hD2
              have hinv : k + 1 ≤ (Nd.ins (getE tN g (getE tI (orderC g).1 i).1.toNat)).length ∧ _ ∧ _ := ⟨hk', hnl, hnew⟩
              refine next_i (k + 1, D2.set (getE tI (orderC g).1 i).1.toNat ((if IntKind.i64.wrap ((getE tI D2 (getE tI (Nd.ins (getE tN g (getE tI (orderC g).1 i).1.toNat)) k).1.toNat).1 + 1) > (getE tI D2 (getE tI (orderC g).1 i).1.toNat).1 then IntKind.i64.wrap ((getE tI D2 (getE tI (Nd.ins (getE tN g (getE tI (orderC g).1 i).1.toNat)) k).1.toNat).1 + 1) else (getE tI D2 (getE tI (orderC g).1 i).1.toNat).1), ())) hinv ?_ rfl rfl ?_
              · dsimp only; omega
              · conv => whnf
                refine ⟨rfl, leaf_i ?_⟩
                repeat' ((with_reducible refine And.intro ?_ ?_) <;> (try (conv => whnf)))
                all_goals (try (first | with_reducible rfl | exact True.intro | rfl | exact id | exact fun h => h | exact fun _ => rfl))
                all_goals (try (first | rfl | exact wrapS (by omega)))
            · have hk' := lt_t (by assumption : decide ((k : Int) < ((Nd.ins (getE tN g (getE tI (orderC g).1 i).1.toNat)).length : Int)) = true)
              refine next_i (k + 1, D2) ⟨hk', hD2, hJ⟩ (by dsimp only; omega) rfl rfl ?_
              conv => whnf
              refine ⟨rfl, leaf_i ?_⟩
              repeat' ((with_reducible refine And.intro ?_ ?_) <;> (try (conv => whnf)))
              all_goals (try (first | with_reducible rfl | exact True.intro | rfl | exact id | exact fun h => h | exact fun _ => rfl))
              all_goals (try (first | rfl | exact wrapS (by omega)))
            · refine next_i (i + 1, D2) ⟨hi', pj_pi hJ (by omega) ea ha⟩ (by dsimp only; omega) rfl rfl ?_
              conv => whnf
              refine ⟨rfl, leaf_i ?_⟩
              repeat' ((with_reducible refine And.intro ?_ ?_) <;> (try (conv => whnf)))
              all_goals (try (first | with_reducible rfl | exact True.intro | rfl | exact id | exact fun h => h | exact fun _ => rfl))
              all_goals (try (first | rfl | exact wrapS (by omega)))
        · all_goals ((with_reducible refine leaf_i ?_); (conv => whnf))
          repeat' ((with_reducible refine And.intro ?_ ?_) <;> (try (conv => whnf)))
          all_goals (try (first | with_reducible rfl | exact True.intro | rfl | exact id | exact fun h => h | exact fun _ => rfl))
end Go.Proofs.Ytbgcgokikekmoaa

/- Layer 10: a copy as a row of one's own. -/
namespace Go.Proofs.Ytbgcgokikekmoaa
set_option linter.unusedVariables false
set_option linter.unusedSimpArgs false
set_option maxRecDepth 100000
open Go Go.RowKit Go.Proofs.Ytbgcgokikekmoaa.Eng

def k_own2 : Sig := .arg (shR tN) fun g => .done { pre := g.length ≤ 1000000000 ∧ ∀ x : Nd, x ∈ g → (Nd.ins x).length ≤ 1000000000, res := .ow 0 5 g.length, new := [.row true tN 39 g] }
set_option maxHeartbeats 4000000 in
theorem c_own2 : FnOk Try.prog 11 k_own2.con := by
  refine fnOkS mixed tys_ok (cs := []) trivial Try.func11 rfl (by kernel_rfl) Try.ntmps11 _ (h := ?_)
  intro g
  refine ⟨rfl, fun hp => ?_⟩
  obtain ⟨hp1, hp2⟩ := hp
  conv => whnf
  repeat' ((first
    | with_reducible refine ⟨fun h => h, ?_⟩
    | with_reducible refine ⟨pk1, ?_⟩
    | with_reducible refine ⟨pk2, ?_⟩
    | with_reducible refine ⟨pk3, ?_⟩
    | with_reducible refine ⟨pk4, ?_⟩
    | with_reducible refine ⟨pk5, ?_⟩
    | with_reducible refine ⟨pk6, ?_⟩
    | with_reducible refine ⟨trivial, ?_⟩
    | with_reducible refine ⟨fun _ => trivial, ?_⟩
    | with_reducible refine ⟨rfl, ?_⟩
    | with_reducible refine every_i (fun hd => ?_)
    | with_reducible refine fork_t (by assumption) ?_
    | with_reducible refine fork_f (by assumption) ?_
    | refine fork_t rfl ?_
    | refine fork_f rfl ?_
    | with_reducible refine fork_i (fun h => ?_) (fun h => ?_)
    | with_reducible refine both_i ?_ ?_
    | ((with_reducible refine alike_i ?_); exact ⟨rfl, rfl, rfl⟩)
    | ((with_reducible refine fin_i ?_); (conv => whnf); refine ⟨rfl, ?_⟩)
    | refine ⟨of_decide_eq_true rfl, ?_⟩
    | refine ⟨fun _ => of_decide_eq_true rfl, ?_⟩
    | ((with_reducible refine ⟨?_, ?_⟩); (focus (intros; simp_all; done)))
    | ((with_reducible refine ⟨?_, ?_⟩); (focus (intros; omega)))) <;> (try (conv => whnf)))
  refine looped (σ := Nat × List (El tN)) (fun x => [(4, I x.1), (3, .ow 0 5 x.2.length)]) (fun x => [.row true tN 39 x.2]) (fun x => x.1 ≤ g.length ∧ x.2 = g.take x.1) (fun x => g.length - x.1) (0, []) ⟨Nat.zero_le _, rfl⟩ ?_ ?_
  · conv => whnf
    refine ⟨rfl, leaf_i ?_⟩
    repeat' ((with_reducible refine And.intro ?_ ?_) <;> (try (conv => whnf)))
    all_goals (try (first | with_reducible rfl | exact True.intro | rfl | exact id | exact fun h => h | exact fun _ => rfl))
  · rintro ⟨j, l⟩ ⟨hj, hl⟩
    dsimp only at hj hl
    conv => whnf
    repeat' ((first
      | with_reducible refine ⟨fun h => h, ?_⟩
      | with_reducible refine ⟨pk1, ?_⟩
      | with_reducible refine ⟨pk2, ?_⟩
      | with_reducible refine ⟨pk3, ?_⟩
      | with_reducible refine ⟨pk4, ?_⟩
      | with_reducible refine ⟨pk5, ?_⟩
      | with_reducible refine ⟨pk6, ?_⟩
      | with_reducible refine ⟨trivial, ?_⟩
      | with_reducible refine ⟨fun _ => trivial, ?_⟩
      | with_reducible refine ⟨rfl, ?_⟩
      | with_reducible refine every_i (fun hd => ?_)
      | with_reducible refine fork_t (by assumption) ?_
      | with_reducible refine fork_f (by assumption) ?_
      | refine fork_t rfl ?_
      | refine fork_f rfl ?_
      | with_reducible refine fork_i (fun h => ?_) (fun h => ?_)
      | with_reducible refine both_i ?_ ?_
      | ((with_reducible refine alike_i ?_); exact ⟨rfl, rfl, rfl⟩)
      | ((with_reducible refine fin_i ?_); (conv => whnf); refine ⟨rfl, ?_⟩)
      | refine ⟨of_decide_eq_true rfl, ?_⟩
      | refine ⟨fun _ => of_decide_eq_true rfl, ?_⟩
      | ((with_reducible refine ⟨?_, ?_⟩); (focus (intros; simp_all; done)))
      | ((with_reducible refine ⟨?_, ?_⟩); (focus (intros; omega)))) <;> (try (conv => whnf)))
    · have hj' : j < g.length := lt_t (by assumption)
      have hlen : l.length = j := by rw [hl, List.length_take]; omega
      refine ⟨hp2 _ (getE_mem g hj'), ?_⟩
      (conv => whnf)
      conv => whnf
      repeat' ((first
        | with_reducible refine ⟨fun h => h, ?_⟩
        | with_reducible refine ⟨pk1, ?_⟩
        | with_reducible refine ⟨pk2, ?_⟩
        | with_reducible refine ⟨pk3, ?_⟩
        | with_reducible refine ⟨pk4, ?_⟩
        | with_reducible refine ⟨pk5, ?_⟩
        | with_reducible refine ⟨pk6, ?_⟩
        | with_reducible refine ⟨trivial, ?_⟩
        | with_reducible refine ⟨fun _ => trivial, ?_⟩
        | with_reducible refine ⟨rfl, ?_⟩
        | with_reducible refine every_i (fun hd => ?_)
        | with_reducible refine fork_t (by assumption) ?_
        | with_reducible refine fork_f (by assumption) ?_
        | refine fork_t rfl ?_
        | refine fork_f rfl ?_
        | with_reducible refine fork_i (fun h => ?_) (fun h => ?_)
        | with_reducible refine both_i ?_ ?_
        | ((with_reducible refine alike_i ?_); exact ⟨rfl, rfl, rfl⟩)
        | ((with_reducible refine fin_i ?_); (conv => whnf); refine ⟨rfl, ?_⟩)
        | ((with_reducible refine ⟨?_, ?_⟩); (focus (simp only [List.length_append, List.length_cons, List.length_nil]; omega)))
        | refine ⟨of_decide_eq_true rfl, ?_⟩
        | refine ⟨fun _ => of_decide_eq_true rfl, ?_⟩
        | ((with_reducible refine ⟨?_, ?_⟩); (focus (intros; simp_all; done)))
        | ((with_reducible refine ⟨?_, ?_⟩); (focus (intros; omega)))) <;> (try (conv => whnf)))
      refine next_i (j + 1, l ++ [getE tN g j]) ⟨hj', by rw [hl]; exact (take_get g hj').symm⟩ (by dsimp only; omega) rfl rfl ?_
      conv => whnf
      refine ⟨rfl, leaf_i ?_⟩
      repeat' ((with_reducible refine And.intro ?_ ?_) <;> (try (conv => whnf)))
      all_goals (try (first | with_reducible rfl | exact True.intro | rfl | exact id | exact fun h => h | exact fun _ => rfl))
      all_goals first | rfl | exact wrapS (j := j) (by omega) | trace_state
    · have hj' : g.length ≤ j := lt_f (by assumption)
      have e : l = g := by rw [hl, List.take_of_length_le hj']
      subst e
      all_goals ((with_reducible refine leaf_i ?_); (conv => whnf))
      repeat' ((with_reducible refine And.intro ?_ ?_) <;> (try (conv => whnf)))
      all_goals (try (first | with_reducible rfl | exact True.intro | rfl | exact id | exact fun h => h | exact fun _ => rfl))
end Go.Proofs.Ytbgcgokikekmoaa
