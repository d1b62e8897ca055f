/- Parts of the proof, joined: no conditions of their own. -/
import Derived.Test.YtbgcgokikekmoaaG05
/- Layer 10, the document: numbers, ports, depth, Node, stays. -/
namespace Go.Proofs.Ytbgcgokikekmoaa
set_option linter.unusedVariables false
set_option linter.unusedSimpArgs false
set_option maxRecDepth 100000
open Go Go.RowKit Go.Proofs.Ytbgcgokikekmoaa.Eng

def k_rstays : Sig := .arg (shT tN) fun n => .arg shI fun least => .done { pre := True, res := B (stayB least n) }
set_option maxHeartbeats 4000000 in
theorem c_rstays : FnOk Try.prog 49 k_rstays.con := by
  refine fnOkS mixed tys_ok (cs := []) trivial Try.func49 rfl (by kernel_rfl) Try.ntmps49 _ (h := ?_)
  intro n least
  refine ⟨rfl, fun _ => ?_⟩
  conv => whnf
  repeat' ((first
    | with_reducible refine ⟨fun h => h, ?_⟩
    | with_reducible refine ⟨pk1, ?_⟩
    | with_reducible refine ⟨pk2, ?_⟩
    | with_reducible refine ⟨pk3, ?_⟩
    | with_reducible refine ⟨pk4, ?_⟩
    | with_reducible refine ⟨pk5, ?_⟩
    | with_reducible refine ⟨pk6, ?_⟩
    | with_reducible refine ⟨trivial, ?_⟩
    | with_reducible refine ⟨fun _ => trivial, ?_⟩
    | with_reducible refine ⟨rfl, ?_⟩
    | with_reducible refine every_i (fun hd => ?_)
    | with_reducible refine fork_t (by assumption) ?_
    | with_reducible refine fork_f (by assumption) ?_
    | refine fork_t rfl ?_
    | refine fork_f rfl ?_
    | with_reducible refine fork_i (fun h => ?_) (fun h => ?_)
    | with_reducible refine both_i ?_ ?_
    | ((with_reducible refine alike_i ?_); exact ⟨rfl, rfl, rfl⟩)
    | ((with_reducible refine fin_i ?_); (conv => whnf); refine ⟨rfl, ?_⟩)
    | refine ⟨of_decide_eq_true rfl, ?_⟩
    | refine ⟨fun _ => of_decide_eq_true rfl, ?_⟩
    | ((with_reducible refine ⟨?_, ?_⟩); (focus (intros; simp_all; done)))
    | ((with_reducible refine ⟨?_, ?_⟩); (focus (intros; omega)))) <;> (try (conv => whnf)))
  all_goals ((with_reducible refine leaf_i ?_); (conv => whnf))
  repeat' ((with_reducible refine And.intro ?_ ?_) <;> (try (conv => whnf)))
  all_goals (try (first | with_reducible rfl | exact True.intro | rfl | exact id | exact fun h => h | exact fun _ => rfl))
  all_goals first | rfl | trace_state

theorem num_2 {n : Nd} (h : n.kind = 2) : numB n = n1B n := by unfold numB numK; rw [if_pos h]
theorem num_3 {n : Nd} (h : n.kind = 3) : numB n = n2B n := by unfold numB numK; rw [h]; rfl
theorem num_5 {n : Nd} (h : n.kind = 5) : numB n = n3B n := by unfold numB numK; rw [h]; rfl
theorem num_9 {n : Nd} (h : n.kind = 9) : numB n = n4B n := by unfold numB numK; rw [h]; rfl
theorem num_o {n : Nd} (h2 : n.kind ≠ 2) (h3 : n.kind ≠ 3) (h5 : n.kind ≠ 5) (h9 : n.kind ≠ 9) : numB n = (bif (bif (bif decide (n.kind ≥ 1) then decide (n.kind ≤ 10) else false) then n.a == 0 else false) then n.b == 0 else false) := by
  unfold numB numK
  rw [if_neg h2, if_neg h3, if_neg h5, if_neg h9]
  split
  · rename_i h
    have h1 : decide (n.kind ≥ 1) = true := decide_eq_true (by omega)
    have h0 : decide (n.kind ≤ 10) = true := decide_eq_true (by omega)
    rw [h1, h0]
    rfl
  · rename_i h
    by_cases h1 : n.kind ≥ 1
    · have : ¬ n.kind ≤ 10 := by omega
      simp [this]
    · simp [h1]
def k_rnumbers : Sig := .arg (shT tN) fun n => .done { pre := True, res := B (numB n) }
set_option maxHeartbeats 4000000 in
theorem c_rnumbers : FnOk Try.prog 27 k_rnumbers.con := by
  refine fnOkS mixed tys_ok (cs := []) trivial Try.func27 rfl (by kernel_rfl) Try.ntmps27 _ (h := ?_)
  intro n
  refine ⟨rfl, fun _ => ?_⟩
  conv => whnf
  repeat' ((first
    | with_reducible refine ⟨fun h => h, ?_⟩
    | with_reducible refine ⟨pk1, ?_⟩
    | with_reducible refine ⟨pk2, ?_⟩
    | with_reducible refine ⟨pk3, ?_⟩
    | with_reducible refine ⟨pk4, ?_⟩
    | with_reducible refine ⟨pk5, ?_⟩
    | with_reducible refine ⟨pk6, ?_⟩
    | with_reducible refine ⟨trivial, ?_⟩
    | with_reducible refine ⟨fun _ => trivial, ?_⟩
    | with_reducible refine ⟨rfl, ?_⟩
    | with_reducible refine every_i (fun hd => ?_)
    | with_reducible refine fork_t (by assumption) ?_
    | with_reducible refine fork_f (by assumption) ?_
    | refine fork_t rfl ?_
    | refine fork_f rfl ?_
    | with_reducible refine fork_i (fun h => ?_) (fun h => ?_)
    | with_reducible refine both_i ?_ ?_
    | ((with_reducible refine alike_i ?_); exact ⟨rfl, rfl, rfl⟩)
    | ((with_reducible refine fin_i ?_); (conv => whnf); refine ⟨rfl, ?_⟩)
    | refine ⟨of_decide_eq_true rfl, ?_⟩
    | refine ⟨fun _ => of_decide_eq_true rfl, ?_⟩
    | ((with_reducible refine ⟨?_, ?_⟩); (focus (intros; simp_all; done)))
    | ((with_reducible refine ⟨?_, ?_⟩); (focus (intros; omega)))) <;> (try (conv => whnf)))
  all_goals ((with_reducible refine leaf_i ?_); (conv => whnf))
  repeat' ((with_reducible refine And.intro ?_ ?_) <;> (try (conv => whnf)))
  all_goals (try (first | with_reducible rfl | exact True.intro | rfl | exact id | exact fun h => h | exact fun _ => rfl))
  · have hk : Nd.kind n = 2 := eq_of_beq h
    rw [num_2 hk]
    show _ = n1B n
    unfold n1B Nd.a Nd.b
    by_cases h1 : n.2.1 ≤ 3
    · by_cases h2 : n.2.1 < 3
      · have : (n.2.1 != 3) = true := by simp; omega
        simp [h1, h2, this]
      · have : n.2.1 = 3 := by omega
        simp [this]
    · simp [h1]
  · have hk : Nd.kind n = 3 := eq_of_beq h
    rw [num_3 hk]; rfl
  · have hk : Nd.kind n = 5 := eq_of_beq h
    rw [num_5 hk]; rfl
  · have hk : Nd.kind n = 9 := eq_of_beq h
    rw [num_9 hk]; rfl
  · rw [num_o]
    · rfl
    all_goals (unfold Nd.kind; simp_all)

theorem hasP_at (p : Int → Bool) {l : List (El tI)} {j : Nat} (hj : j < l.length) (h : p (getE tI l j).1 = true) : hasP p l = true := by
  rw [hasP_any, List.any_eq_true]
  exact ⟨_, getE_mem l hj, h⟩
theorem hasP_no (p : Int → Bool) {l : List (El tI)} (h : ∀ j, j < l.length → p (getE tI l j).1 = false) : hasP p l = false := by
  rw [hasP_any, List.any_eq_false]
  intro x hx
  obtain ⟨j, hj, e⟩ := List.getElem_of_mem hx
  have := h j hj
  unfold getE at this
  simp [hj, e] at this
  simp [this]
def k_rports : Sig := .arg (shR tN) fun g => .arg (shT tN) fun n => .done { pre := (Nd.ins n).length < 4611686018427387904, res := B (portsB g n) }
set_option maxHeartbeats 4000000 in
theorem c_rports : FnOk Try.prog 28 k_rports.con := by
  refine fnOkS mixed tys_ok (cs := []) trivial Try.func28 rfl (by kernel_rfl) Try.ntmps28 _ (h := ?_)
  intro g n
  refine ⟨rfl, fun hp => ?_⟩
  have hp : (Nd.ins n).length < 4611686018427387904 := hp
  have hgd : ∀ j : Nat, ((bif decide ((getE tI (Nd.ins n) j).1 < 0) then true else decide ((getE tI (Nd.ins n) j).1 ≥ (g.length : Int))) == false) = true → 0 ≤ (getE tI (Nd.ins n) j).1 ∧ (getE tI (Nd.ins n) j).1 < (g.length : Int) := fun j h => by
    by_cases h1 : (getE tI (Nd.ins n) j).1 < 0
    · simp [h1] at h
    · by_cases h2 : (getE tI (Nd.ins n) j).1 ≥ (g.length : Int)
      · simp [h1, h2] at h
      · omega
  conv => whnf
  repeat' ((first
    | with_reducible refine ⟨fun h => h, ?_⟩
    | with_reducible refine ⟨pk1, ?_⟩
    | with_reducible refine ⟨pk2, ?_⟩
    | with_reducible refine ⟨pk3, ?_⟩
    | with_reducible refine ⟨pk4, ?_⟩
    | with_reducible refine ⟨pk5, ?_⟩
    | with_reducible refine ⟨pk6, ?_⟩
    | with_reducible refine ⟨trivial, ?_⟩
    | with_reducible refine ⟨fun _ => trivial, ?_⟩
    | with_reducible refine ⟨rfl, ?_⟩
    | with_reducible refine every_i (fun hd => ?_)
    | with_reducible refine fork_t (by assumption) ?_
    | with_reducible refine fork_f (by assumption) ?_
    | refine fork_t rfl ?_
    | refine fork_f rfl ?_
    | with_reducible refine fork_i (fun h => ?_) (fun h => ?_)
    | with_reducible refine both_i ?_ ?_
    | ((with_reducible refine alike_i ?_); exact ⟨rfl, rfl, rfl⟩)
    | ((with_reducible refine fin_i ?_); (conv => whnf); refine ⟨rfl, ?_⟩)
    | refine ⟨of_decide_eq_true rfl, ?_⟩
    | refine ⟨fun _ => of_decide_eq_true rfl, ?_⟩
    | ((with_reducible refine ⟨?_, ?_⟩); (focus (intros; simp_all; done)))
    | ((with_reducible refine ⟨?_, ?_⟩); (focus (intros; omega)))) <;> (try (conv => whnf)))
  all_goals
    refine only [5, 3, 0] ?_
    (conv => whnf)
    refine looped (σ := Nat) (fun j => [(6, I j)]) (fun _ => [.cells (ndC false n)]) (fun j => j ≤ (Nd.ins n).length ∧ ∀ i, i < j → wrongB g (getE tI (Nd.ins n) i).1 = false) (fun j => (Nd.ins n).length - j) 0 ⟨Nat.zero_le _, fun i hi => absurd hi (Nat.not_lt_zero _)⟩ ?_ ?_
    · conv => whnf
      refine ⟨rfl, leaf_i ?_⟩
      repeat' ((with_reducible refine And.intro ?_ ?_) <;> (try (conv => whnf)))
      all_goals (try (first | with_reducible rfl | exact True.intro | rfl | exact id | exact fun h => h | exact fun _ => rfl))
    · rintro j ⟨hj, hw⟩
      dsimp only at hj hw ⊢
      have hgd := hgd j
      conv => whnf
      repeat' ((first
        | with_reducible refine ⟨fun h => h, ?_⟩
        | with_reducible refine ⟨pk1, ?_⟩
        | with_reducible refine ⟨pk2, ?_⟩
        | with_reducible refine ⟨pk3, ?_⟩
        | with_reducible refine ⟨pk4, ?_⟩
        | with_reducible refine ⟨pk5, ?_⟩
        | with_reducible refine ⟨pk6, ?_⟩
        | with_reducible refine ⟨trivial, ?_⟩
        | with_reducible refine ⟨fun _ => trivial, ?_⟩
        | with_reducible refine ⟨rfl, ?_⟩
        | with_reducible refine every_i (fun hd => ?_)
        | with_reducible refine fork_t (by assumption) ?_
        | with_reducible refine fork_f (by assumption) ?_
        | refine fork_t rfl ?_
        | refine fork_f rfl ?_
        | with_reducible refine fork_i (fun h => ?_) (fun h => ?_)
        | with_reducible refine both_i ?_ ?_
        | ((with_reducible refine alike_i ?_); exact ⟨rfl, rfl, rfl⟩)
        | ((with_reducible refine fin_i ?_); (conv => whnf); refine ⟨rfl, ?_⟩)
        | refine ⟨hgd, ?_⟩
        | refine ⟨of_decide_eq_true rfl, ?_⟩
        | refine ⟨fun _ => of_decide_eq_true rfl, ?_⟩
        | ((with_reducible refine ⟨?_, ?_⟩); (focus (intros; simp_all; done)))
        | ((with_reducible refine ⟨?_, ?_⟩); (focus (intros; omega)))) <;> (try (conv => whnf)))
      · rename_i hj'
        have hj' : j < (Nd.ins n).length := lt_t hj'
        have hwr : wrongB g (getE tI (Nd.ins n) j).1 = true := h
        have hno : portsB g n = false := by unfold portsB; rw [hasP_at (wrongB g) hj' hwr]; simp
        all_goals ((with_reducible refine leaf_i ?_); (conv => whnf))
        repeat' ((with_reducible refine And.intro ?_ ?_) <;> (try (conv => whnf)))
        all_goals (try (first | with_reducible rfl | exact True.intro | rfl | exact id | exact fun h => h | exact fun _ => rfl))
        all_goals exact hno.symm
      · rename_i hj'
        have hj' : j < (Nd.ins n).length := lt_t hj'
        have hwr : wrongB g (getE tI (Nd.ins n) j).1 = false := h
        refine next_i (j + 1) ⟨hj', fun i hi => ?_⟩ (by omega) rfl rfl ?_
        · by_cases e : i = j
          · subst e; exact hwr
          · exact hw i (by omega)
        · conv => whnf
          refine ⟨rfl, leaf_i ?_⟩
          repeat' ((with_reducible refine And.intro ?_ ?_) <;> (try (conv => whnf)))
          all_goals (try (first | with_reducible rfl | exact True.intro | rfl | exact id | exact fun h => h | exact fun _ => rfl))
          all_goals (try (first | rfl | exact wrapS (by omega)))
      · rename_i hk
        have hj' : (Nd.ins n).length ≤ j := lt_f h
        have hall : hasP (wrongB g) (Nd.ins n) = false := hasP_no _ fun i hi => hw i (by omega)
        all_goals ((with_reducible refine leaf_i ?_); (conv => whnf))
        repeat' ((with_reducible refine And.intro ?_ ?_) <;> (try (conv => whnf)))
        all_goals (try (first | with_reducible rfl | exact True.intro | rfl | exact id | exact fun h => h | exact fun _ => rfl))
        all_goals (unfold portsB; rw [hall]; simp only [arK, Nd.kind, Nd.ins, Bool.not_false, Bool.cond_true_left]; (try simp_all); done)

def earlyB (n : Nd) : Bool := bif (bif bif decide (n.2.2.2.1 < 0) then true else decide (n.2.2.2.1 > 3) then true else bif bif n.1 == 1 then true else n.1 == 10 then n.2.2.2.1 != 0 else false) then true else bif n.1 == 9 then decide (n.2.2.2.1 < 1) else false
theorem early_iff {n : Nd} : earlyB n = true ↔ (n.dep < 0 ∨ n.dep > 3) ∨ ((n.kind = 1 ∨ n.kind = 10) ∧ n.dep ≠ 0) ∨ (n.kind = 9 ∧ n.dep < 1) := by
  unfold earlyB
  simp only [Bool.cond_true_left, Bool.cond_false_right, Bool.or_eq_true, Bool.and_eq_true, decide_eq_true_eq, beq_iff_eq, bne_iff_ne, ne_eq]
  show ((n.dep < 0 ∨ n.dep > 3) ∨ ((n.kind = 1 ∨ n.kind = 10) ∧ ¬ n.dep = 0)) ∨ (n.kind = 9 ∧ n.dep < 1) ↔ _
  exact or_assoc
theorem early_no {g : List Nd} {n : Nd} (h : earlyB n = true) : depthB g n = false := by
  rw [early_iff] at h
  unfold depthB
  split
  · rfl
  · split
    · rfl
    · rename_i h1 h2
      have : n.dep < 0 ∨ n.dep > 3 := by
        rcases h with h | h | h
        · exact h
        · exact absurd h h2
        · exact absurd h h1
      rcases this with h | h
      · have : ¬ n.dep ≥ 0 := by omega
        simp [this]
      · have : ¬ n.dep ≤ 3 := by omega
        simp [this]
theorem depthB_in {g : List Nd} {n : Nd} (h : ¬ earlyB n = true) : depthB g n = !hasP (otherB g (fedK n.kind n.dep)) n.ins := by
  rw [early_iff] at h
  unfold depthB
  rw [if_neg (fun hh => h (.inr (.inr hh))), if_neg (fun hh => h (.inr (.inl hh)))]
  have h1 : decide (n.dep ≥ 0) = true := decide_eq_true (by omega)
  have h2 : decide (n.dep ≤ 3) = true := decide_eq_true (by omega)
  rw [h1, h2]; rfl
theorem no_early {n : Nd} (h : earlyB n = false) : ¬ earlyB n = true := by rw [h]; simp
theorem other_t {g : List Nd} {w x y : Int} (hf : w = x) (h : (w != (nd g y).2.2.2.1) = true) : otherB g x y = true := by
  subst hf; unfold otherB Nd.dep
  rw [bne_iff_ne] at h ⊢
  exact fun e => h e.symm
theorem other_f {g : List Nd} {w x y : Int} (hf : w = x) (h : (w != (nd g y).2.2.2.1) = false) : otherB g x y = false := by
  subst hf; unfold otherB Nd.dep
  rw [bne_eq_false_iff_eq] at h ⊢
  exact h.symm
def k_rdepth : Sig := .arg (shR tN) fun g => .arg (shT tN) fun n => .done { pre := (Nd.ins n).length < 4611686018427387904 ∧ ∀ x ∈ Nd.ins n, 0 ≤ x.1 ∧ x.1 < (g.length : Int), res := B (depthB g n) }
set_option maxHeartbeats 4000000 in
theorem c_rdepth : FnOk Try.prog 29 k_rdepth.con := by
  refine fnOkS mixed tys_ok (cs := []) trivial Try.func29 rfl (by kernel_rfl) Try.ntmps29 _ (h := ?_)
  intro g n
  refine ⟨rfl, fun hp => ?_⟩
  obtain ⟨hp1, hp2⟩ := hp
  conv => whnf
  repeat' ((first
    | with_reducible refine ⟨fun h => h, ?_⟩
    | with_reducible refine ⟨pk1, ?_⟩
    | with_reducible refine ⟨pk2, ?_⟩
    | with_reducible refine ⟨pk3, ?_⟩
    | with_reducible refine ⟨pk4, ?_⟩
    | with_reducible refine ⟨pk5, ?_⟩
    | with_reducible refine ⟨pk6, ?_⟩
    | with_reducible refine ⟨trivial, ?_⟩
    | with_reducible refine ⟨fun _ => trivial, ?_⟩
    | with_reducible refine ⟨rfl, ?_⟩
    | with_reducible refine every_i (fun hd => ?_)
    | with_reducible refine fork_t (by assumption) ?_
    | with_reducible refine fork_f (by assumption) ?_
    | refine fork_t rfl ?_
    | refine fork_f rfl ?_
    | with_reducible refine fork_i (fun h => ?_) (fun h => ?_)
    | with_reducible refine both_i ?_ ?_
    | ((with_reducible refine alike_i ?_); exact ⟨rfl, rfl, rfl⟩)
    | ((with_reducible refine fin_i ?_); (conv => whnf); refine ⟨rfl, ?_⟩)
    | refine ⟨of_decide_eq_true rfl, ?_⟩
    | refine ⟨fun _ => of_decide_eq_true rfl, ?_⟩
    | ((with_reducible refine ⟨?_, ?_⟩); (focus (intros; simp_all; done)))
    | ((with_reducible refine ⟨?_, ?_⟩); (focus (intros; omega)))) <;> (try (conv => whnf)))
  · have hno : depthB g n = false := early_no h
    all_goals ((with_reducible refine leaf_i ?_); (conv => whnf))
    repeat' ((with_reducible refine And.intro ?_ ?_) <;> (try (conv => whnf)))
    all_goals (try (first | with_reducible rfl | exact True.intro | rfl | exact id | exact fun h => h | exact fun _ => rfl))
    all_goals exact hno.symm
  all_goals have hin0 : ¬ earlyB n = true := no_early (by assumption)
  · have e1 : n.1 = 7 := eq_of_beq (by assumption)
    have e2 : n.1 = 8 := eq_of_beq h
    omega
  · have hfd : IntKind.i64.wrap (n.2.2.2.1 - 1) = fedK (Nd.kind n) (Nd.dep n) := by
      have e1 : Nd.kind n = 7 := eq_of_beq (by assumption)
      unfold fedK; rw [if_pos e1]; rfl
    refine only [5, 3, 0] ?_
    (conv => whnf)
    refine looped (σ := Nat) (fun j => [(6, I j)]) (fun _ => [.cells (ndC false n)]) (fun j => j ≤ (Nd.ins n).length ∧ ∀ i, i < j → otherB g (fedK (Nd.kind n) (Nd.dep n)) (getE tI (Nd.ins n) i).1 = false) (fun j => (Nd.ins n).length - j) 0 ⟨Nat.zero_le _, fun i hi => absurd hi (Nat.not_lt_zero _)⟩ ?_ ?_
    · conv => whnf
      refine ⟨rfl, leaf_i ?_⟩
      repeat' ((with_reducible refine And.intro ?_ ?_) <;> (try (conv => whnf)))
      all_goals (try (first | with_reducible rfl | exact True.intro | rfl | exact id | exact fun h => h | exact fun _ => rfl))
    · rintro j ⟨hj, hw⟩
      dsimp only at hj hw ⊢
      have hin : decide ((j : Int) < ((Nd.ins n).length : Int)) = true → 0 ≤ (getE tI (Nd.ins n) j).1 ∧ (getE tI (Nd.ins n) j).1 < (g.length : Int) := fun h => hp2 _ (getE_mem _ (lt_t h))
      conv => whnf
      repeat' ((first
        | with_reducible refine ⟨fun h => h, ?_⟩
        | with_reducible refine ⟨pk1, ?_⟩
        | with_reducible refine ⟨pk2, ?_⟩
        | with_reducible refine ⟨pk3, ?_⟩
        | with_reducible refine ⟨pk4, ?_⟩
        | with_reducible refine ⟨pk5, ?_⟩
        | with_reducible refine ⟨pk6, ?_⟩
        | with_reducible refine ⟨trivial, ?_⟩
        | with_reducible refine ⟨fun _ => trivial, ?_⟩
        | with_reducible refine ⟨rfl, ?_⟩
        | with_reducible refine every_i (fun hd => ?_)
        | with_reducible refine fork_t (by assumption) ?_
        | with_reducible refine fork_f (by assumption) ?_
        | refine fork_t rfl ?_
        | refine fork_f rfl ?_
        | with_reducible refine fork_i (fun h => ?_) (fun h => ?_)
        | with_reducible refine both_i ?_ ?_
        | ((with_reducible refine alike_i ?_); exact ⟨rfl, rfl, rfl⟩)
        | ((with_reducible refine fin_i ?_); (conv => whnf); refine ⟨rfl, ?_⟩)
        | refine ⟨hin (by assumption), ?_⟩
        | refine ⟨of_decide_eq_true rfl, ?_⟩
        | refine ⟨fun _ => of_decide_eq_true rfl, ?_⟩
        | ((with_reducible refine ⟨?_, ?_⟩); (focus (intros; simp_all; done)))
        | ((with_reducible refine ⟨?_, ?_⟩); (focus (intros; omega)))) <;> (try (conv => whnf)))
      · rename_i hj'
        have hj' : j < (Nd.ins n).length := lt_t hj'
        have hwr : otherB g (fedK (Nd.kind n) (Nd.dep n)) (getE tI (Nd.ins n) j).1 = true := other_t hfd h
        have hno : depthB g n = false := by rw [depthB_in hin0, hasP_at _ hj' hwr]; simp
        all_goals ((with_reducible refine leaf_i ?_); (conv => whnf))
        repeat' ((with_reducible refine And.intro ?_ ?_) <;> (try (conv => whnf)))
        all_goals (try (first | with_reducible rfl | exact True.intro | rfl | exact id | exact fun h => h | exact fun _ => rfl))
        all_goals exact hno.symm
      · rename_i hj'
        have hj' : j < (Nd.ins n).length := lt_t hj'
        have hwr : otherB g (fedK (Nd.kind n) (Nd.dep n)) (getE tI (Nd.ins n) j).1 = false := other_f hfd h
        refine next_i (j + 1) ⟨hj', fun i hi => ?_⟩ (by omega) rfl rfl ?_
        · by_cases e : i = j
          · subst e; exact hwr
          · exact hw i (by omega)
        · conv => whnf
          refine ⟨rfl, leaf_i ?_⟩
          repeat' ((with_reducible refine And.intro ?_ ?_) <;> (try (conv => whnf)))
          all_goals (try (first | with_reducible rfl | exact True.intro | rfl | exact id | exact fun h => h | exact fun _ => rfl))
          all_goals (try (first | rfl | exact wrapS (by omega)))
      · have hj' : (Nd.ins n).length ≤ j := lt_f h
        have hall : hasP (otherB g (fedK (Nd.kind n) (Nd.dep n))) (Nd.ins n) = false := hasP_no _ fun i hi => hw i (by omega)
        have hyes : depthB g n = true := by rw [depthB_in hin0, hall]; rfl
        all_goals ((with_reducible refine leaf_i ?_); (conv => whnf))
        repeat' ((with_reducible refine And.intro ?_ ?_) <;> (try (conv => whnf)))
        all_goals (try (first | with_reducible rfl | exact True.intro | rfl | exact id | exact fun h => h | exact fun _ => rfl))
        all_goals exact hyes.symm
  · have hfd : IntKind.i64.wrap (n.2.2.2.1 - -1) = fedK (Nd.kind n) (Nd.dep n) := by
      have e1 : Nd.kind n = 8 := eq_of_beq h
      unfold fedK; rw [e1, if_neg (by decide), if_pos rfl]
      show IntKind.i64.wrap (Nd.dep n - -1) = _
      congr 1
    refine only [5, 3, 0] ?_
    (conv => whnf)
    refine looped (σ := Nat) (fun j => [(6, I j)]) (fun _ => [.cells (ndC false n)]) (fun j => j ≤ (Nd.ins n).length ∧ ∀ i, i < j → otherB g (fedK (Nd.kind n) (Nd.dep n)) (getE tI (Nd.ins n) i).1 = false) (fun j => (Nd.ins n).length - j) 0 ⟨Nat.zero_le _, fun i hi => absurd hi (Nat.not_lt_zero _)⟩ ?_ ?_
    · conv => whnf
      refine ⟨rfl, leaf_i ?_⟩
      repeat' ((with_reducible refine And.intro ?_ ?_) <;> (try (conv => whnf)))
      all_goals (try (first | with_reducible rfl | exact True.intro | rfl | exact id | exact fun h => h | exact fun _ => rfl))
    · rintro j ⟨hj, hw⟩
      dsimp only at hj hw ⊢
      have hin : decide ((j : Int) < ((Nd.ins n).length : Int)) = true → 0 ≤ (getE tI (Nd.ins n) j).1 ∧ (getE tI (Nd.ins n) j).1 < (g.length : Int) := fun h => hp2 _ (getE_mem _ (lt_t h))
      conv => whnf
      repeat' ((first
        | with_reducible refine ⟨fun h => h, ?_⟩
        | with_reducible refine ⟨pk1, ?_⟩
        | with_reducible refine ⟨pk2, ?_⟩
        | with_reducible refine ⟨pk3, ?_⟩
        | with_reducible refine ⟨pk4, ?_⟩
        | with_reducible refine ⟨pk5, ?_⟩
        | with_reducible refine ⟨pk6, ?_⟩
        | with_reducible refine ⟨trivial, ?_⟩
        | with_reducible refine ⟨fun _ => trivial, ?_⟩
        | with_reducible refine ⟨rfl, ?_⟩
        | with_reducible refine every_i (fun hd => ?_)
        | with_reducible refine fork_t (by assumption) ?_
        | with_reducible refine fork_f (by assumption) ?_
        | refine fork_t rfl ?_
        | refine fork_f rfl ?_
        | with_reducible refine fork_i (fun h => ?_) (fun h => ?_)
        | with_reducible refine both_i ?_ ?_
        | ((with_reducible refine alike_i ?_); exact ⟨rfl, rfl, rfl⟩)
        | ((with_reducible refine fin_i ?_); (conv => whnf); refine ⟨rfl, ?_⟩)
        | refine ⟨hin (by assumption), ?_⟩
        | refine ⟨of_decide_eq_true rfl, ?_⟩
        | refine ⟨fun _ => of_decide_eq_true rfl, ?_⟩
        | ((with_reducible refine ⟨?_, ?_⟩); (focus (intros; simp_all; done)))
        | ((with_reducible refine ⟨?_, ?_⟩); (focus (intros; omega)))) <;> (try (conv => whnf)))
      · rename_i hj'
        have hj' : j < (Nd.ins n).length := lt_t hj'
        have hwr : otherB g (fedK (Nd.kind n) (Nd.dep n)) (getE tI (Nd.ins n) j).1 = true := other_t hfd h
        have hno : depthB g n = false := by rw [depthB_in hin0, hasP_at _ hj' hwr]; simp
        all_goals ((with_reducible refine leaf_i ?_); (conv => whnf))
        repeat' ((with_reducible refine And.intro ?_ ?_) <;> (try (conv => whnf)))
        all_goals (try (first | with_reducible rfl | exact True.intro | rfl | exact id | exact fun h => h | exact fun _ => rfl))
        all_goals exact hno.symm
      · rename_i hj'
        have hj' : j < (Nd.ins n).length := lt_t hj'
        have hwr : otherB g (fedK (Nd.kind n) (Nd.dep n)) (getE tI (Nd.ins n) j).1 = false := other_f hfd h
        refine next_i (j + 1) ⟨hj', fun i hi => ?_⟩ (by omega) rfl rfl ?_
        · by_cases e : i = j
          · subst e; exact hwr
          · exact hw i (by omega)
        · conv => whnf
          refine ⟨rfl, leaf_i ?_⟩
          repeat' ((with_reducible refine And.intro ?_ ?_) <;> (try (conv => whnf)))
          all_goals (try (first | with_reducible rfl | exact True.intro | rfl | exact id | exact fun h => h | exact fun _ => rfl))
          all_goals (try (first | rfl | exact wrapS (by omega)))
      · have hj' : (Nd.ins n).length ≤ j := lt_f h
        have hall : hasP (otherB g (fedK (Nd.kind n) (Nd.dep n))) (Nd.ins n) = false := hasP_no _ fun i hi => hw i (by omega)
        have hyes : depthB g n = true := by rw [depthB_in hin0, hall]; rfl
        all_goals ((with_reducible refine leaf_i ?_); (conv => whnf))
        repeat' ((with_reducible refine And.intro ?_ ?_) <;> (try (conv => whnf)))
        all_goals (try (first | with_reducible rfl | exact True.intro | rfl | exact id | exact fun h => h | exact fun _ => rfl))
        all_goals exact hyes.symm
  · have hfd : IntKind.i64.wrap (n.2.2.2.1 - 0) = fedK (Nd.kind n) (Nd.dep n) := by
      have e1 : Nd.kind n ≠ 7 := ne_of_beq_false (by assumption)
      have e2 : Nd.kind n ≠ 8 := ne_of_beq_false h
      unfold fedK; rw [if_neg e1, if_neg e2]
      rw [early_iff] at hin0
      show IntKind.i64.wrap (Nd.dep n - 0) = _
      rw [Int.sub_zero]
      exact wrapI (by omega) (by omega)
    refine only [5, 3, 0] ?_
    (conv => whnf)
    refine looped (σ := Nat) (fun j => [(6, I j)]) (fun _ => [.cells (ndC false n)]) (fun j => j ≤ (Nd.ins n).length ∧ ∀ i, i < j → otherB g (fedK (Nd.kind n) (Nd.dep n)) (getE tI (Nd.ins n) i).1 = false) (fun j => (Nd.ins n).length - j) 0 ⟨Nat.zero_le _, fun i hi => absurd hi (Nat.not_lt_zero _)⟩ ?_ ?_
    · conv => whnf
      refine ⟨rfl, leaf_i ?_⟩
      repeat' ((with_reducible refine And.intro ?_ ?_) <;> (try (conv => whnf)))
      all_goals (try (first | with_reducible rfl | exact True.intro | rfl | exact id | exact fun h => h | exact fun _ => rfl))
    · rintro j ⟨hj, hw⟩
      dsimp only at hj hw ⊢
      have hin : decide ((j : Int) < ((Nd.ins n).length : Int)) = true → 0 ≤ (getE tI (Nd.ins n) j).1 ∧ (getE tI (Nd.ins n) j).1 < (g.length : Int) := fun h => hp2 _ (getE_mem _ (lt_t h))
      conv => whnf
      repeat' ((first
        | with_reducible refine ⟨fun h => h, ?_⟩
        | with_reducible refine ⟨pk1, ?_⟩
        | with_reducible refine ⟨pk2, ?_⟩
        | with_reducible refine ⟨pk3, ?_⟩
        | with_reducible refine ⟨pk4, ?_⟩
        | with_reducible refine ⟨pk5, ?_⟩
        | with_reducible refine ⟨pk6, ?_⟩
        | with_reducible refine ⟨trivial, ?_⟩
        | with_reducible refine ⟨fun _ => trivial, ?_⟩
        | with_reducible refine ⟨rfl, ?_⟩
        | with_reducible refine every_i (fun hd => ?_)
        | with_reducible refine fork_t (by assumption) ?_
        | with_reducible refine fork_f (by assumption) ?_
        | refine fork_t rfl ?_
        | refine fork_f rfl ?_
        | with_reducible refine fork_i (fun h => ?_) (fun h => ?_)
        | with_reducible refine both_i ?_ ?_
        | ((with_reducible refine alike_i ?_); exact ⟨rfl, rfl, rfl⟩)
        | ((with_reducible refine fin_i ?_); (conv => whnf); refine ⟨rfl, ?_⟩)
        | refine ⟨hin (by assumption), ?_⟩
        | refine ⟨of_decide_eq_true rfl, ?_⟩
        | refine ⟨fun _ => of_decide_eq_true rfl, ?_⟩
        | ((with_reducible refine ⟨?_, ?_⟩); (focus (intros; simp_all; done)))
        | ((with_reducible refine ⟨?_, ?_⟩); (focus (intros; omega)))) <;> (try (conv => whnf)))
      · rename_i hj'
        have hj' : j < (Nd.ins n).length := lt_t hj'
        have hwr : otherB g (fedK (Nd.kind n) (Nd.dep n)) (getE tI (Nd.ins n) j).1 = true := other_t hfd h
        have hno : depthB g n = false := by rw [depthB_in hin0, hasP_at _ hj' hwr]; simp
        all_goals ((with_reducible refine leaf_i ?_); (conv => whnf))
        repeat' ((with_reducible refine And.intro ?_ ?_) <;> (try (conv => whnf)))
        all_goals (try (first | with_reducible rfl | exact True.intro | rfl | exact id | exact fun h => h | exact fun _ => rfl))
        all_goals exact hno.symm
      · rename_i hj'
        have hj' : j < (Nd.ins n).length := lt_t hj'
        have hwr : otherB g (fedK (Nd.kind n) (Nd.dep n)) (getE tI (Nd.ins n) j).1 = false := other_f hfd h
        refine next_i (j + 1) ⟨hj', fun i hi => ?_⟩ (by omega) rfl rfl ?_
        · by_cases e : i = j
          · subst e; exact hwr
          · exact hw i (by omega)
        · conv => whnf
          refine ⟨rfl, leaf_i ?_⟩
          repeat' ((with_reducible refine And.intro ?_ ?_) <;> (try (conv => whnf)))
          all_goals (try (first | with_reducible rfl | exact True.intro | rfl | exact id | exact fun h => h | exact fun _ => rfl))
          all_goals (try (first | rfl | exact wrapS (by omega)))
      · have hj' : (Nd.ins n).length ≤ j := lt_f h
        have hall : hasP (otherB g (fedK (Nd.kind n) (Nd.dep n))) (Nd.ins n) = false := hasP_no _ fun i hi => hw i (by omega)
        have hyes : depthB g n = true := by rw [depthB_in hin0, hall]; rfl
        all_goals ((with_reducible refine leaf_i ?_); (conv => whnf))
        repeat' ((with_reducible refine And.intro ?_ ?_) <;> (try (conv => whnf)))
        all_goals (try (first | with_reducible rfl | exact True.intro | rfl | exact id | exact fun h => h | exact fun _ => rfl))
        all_goals exact hyes.symm
end Go.Proofs.Ytbgcgokikekmoaa

/- Layer 10, the document: Node. -/
namespace Go.Proofs.Ytbgcgokikekmoaa
set_option linter.unusedVariables false
set_option linter.unusedSimpArgs false
set_option maxRecDepth 100000
open Go Go.RowKit Go.Proofs.Ytbgcgokikekmoaa.Eng

def k_rnode : Sig := .arg (shR tN) fun g => .arg shI fun i => .done { pre := g.length < 4611686018427387904 ∧ ∀ x : Nd, x ∈ g → (Nd.ins x).length < 4611686018427387904, res := I (nodeE g i) }
set_option maxHeartbeats 4000000 in
theorem c_rnode : FnOk Try.prog 13 k_rnode.con := by
  refine fnOkS mixed tys_ok (cs := [(27, k_rnumbers.con), (28, k_rports.con), (29, k_rdepth.con)]) ⟨c_rnumbers, c_rports, c_rdepth, trivial⟩ Try.func13 rfl (by kernel_rfl) Try.ntmps13 _ (h := ?_)
  intro g i
  refine ⟨rfl, fun hp => ?_⟩
  obtain ⟨hp1, hp2⟩ := hp
  by_cases h1 : i < 0
  · have e1 : decide (i < 0) = true := by simp [h1]
    conv => whnf
    repeat' ((first
      | with_reducible refine ⟨fun h => h, ?_⟩
      | with_reducible refine ⟨pk1, ?_⟩
      | with_reducible refine ⟨pk2, ?_⟩
      | with_reducible refine ⟨pk3, ?_⟩
      | with_reducible refine ⟨pk4, ?_⟩
      | with_reducible refine ⟨pk5, ?_⟩
      | with_reducible refine ⟨pk6, ?_⟩
      | with_reducible refine ⟨trivial, ?_⟩
      | with_reducible refine ⟨fun _ => trivial, ?_⟩
      | with_reducible refine ⟨rfl, ?_⟩
      | with_reducible refine every_i (fun hd => ?_)
      | with_reducible refine fork_t (by assumption) ?_
      | with_reducible refine fork_f (by assumption) ?_
      | refine fork_t rfl ?_
      | refine fork_f rfl ?_
      | with_reducible refine fork_i (fun h => ?_) (fun h => ?_)
      | with_reducible refine both_i ?_ ?_
      | ((with_reducible refine alike_i ?_); exact ⟨rfl, rfl, rfl⟩)
      | ((with_reducible refine fin_i ?_); (conv => whnf); refine ⟨rfl, ?_⟩)
      | refine ⟨of_decide_eq_true rfl, ?_⟩
      | refine ⟨fun _ => of_decide_eq_true rfl, ?_⟩
      | ((with_reducible refine ⟨?_, ?_⟩); (focus (intros; simp_all; done)))
      | ((with_reducible refine ⟨?_, ?_⟩); (focus (intros; omega)))) <;> (try (conv => whnf)))
    all_goals ((with_reducible refine leaf_i ?_); (conv => whnf))
    repeat' ((with_reducible refine And.intro ?_ ?_) <;> (try (conv => whnf)))
    all_goals (try (first | with_reducible rfl | exact True.intro | rfl | exact id | exact fun h => h | exact fun _ => rfl))
    all_goals (first | rfl | (simp_all [nodeE]; done) | trace_state)
  · by_cases h2 : i ≥ (g.length : Int)
    · conv => whnf
      repeat' ((first
        | with_reducible refine ⟨fun h => h, ?_⟩
        | with_reducible refine ⟨pk1, ?_⟩
        | with_reducible refine ⟨pk2, ?_⟩
        | with_reducible refine ⟨pk3, ?_⟩
        | with_reducible refine ⟨pk4, ?_⟩
        | with_reducible refine ⟨pk5, ?_⟩
        | with_reducible refine ⟨pk6, ?_⟩
        | with_reducible refine ⟨trivial, ?_⟩
        | with_reducible refine ⟨fun _ => trivial, ?_⟩
        | with_reducible refine ⟨rfl, ?_⟩
        | with_reducible refine every_i (fun hd => ?_)
        | with_reducible refine fork_t (by assumption) ?_
        | with_reducible refine fork_f (by assumption) ?_
        | refine fork_t rfl ?_
        | refine fork_f rfl ?_
        | with_reducible refine fork_i (fun h => ?_) (fun h => ?_)
        | with_reducible refine both_i ?_ ?_
        | ((with_reducible refine alike_i ?_); exact ⟨rfl, rfl, rfl⟩)
        | ((with_reducible refine fin_i ?_); (conv => whnf); refine ⟨rfl, ?_⟩)
        | refine ⟨of_decide_eq_true rfl, ?_⟩
        | refine ⟨fun _ => of_decide_eq_true rfl, ?_⟩
        | ((with_reducible refine ⟨?_, ?_⟩); (focus (intros; simp_all; done)))
        | ((with_reducible refine ⟨?_, ?_⟩); (focus (intros; omega)))) <;> (try (conv => whnf)))
      all_goals ((with_reducible refine leaf_i ?_); (conv => whnf))
      repeat' ((with_reducible refine And.intro ?_ ?_) <;> (try (conv => whnf)))
      all_goals (try (first | with_reducible rfl | exact True.intro | rfl | exact id | exact fun h => h | exact fun _ => rfl))
      all_goals (first | rfl | (simp_all [nodeE]; done) | trace_state)
    · have hin : 0 ≤ i ∧ i < (g.length : Int) := by omega
      have hl : (Nd.ins (nd g i)).length < 4611686018427387904 := hp2 _ (getE_mem g (by omega))
      conv => whnf
      repeat' ((first
        | with_reducible refine ⟨fun h => h, ?_⟩
        | with_reducible refine ⟨pk1, ?_⟩
        | with_reducible refine ⟨pk2, ?_⟩
        | with_reducible refine ⟨pk3, ?_⟩
        | with_reducible refine ⟨pk4, ?_⟩
        | with_reducible refine ⟨pk5, ?_⟩
        | with_reducible refine ⟨pk6, ?_⟩
        | with_reducible refine ⟨trivial, ?_⟩
        | with_reducible refine ⟨fun _ => trivial, ?_⟩
        | with_reducible refine ⟨rfl, ?_⟩
        | with_reducible refine every_i (fun hd => ?_)
        | with_reducible refine fork_t (by assumption) ?_
        | with_reducible refine fork_f (by assumption) ?_
        | refine fork_t rfl ?_
        | refine fork_f rfl ?_
        | with_reducible refine fork_i (fun h => ?_) (fun h => ?_)
        | with_reducible refine both_i ?_ ?_
        | ((with_reducible refine alike_i ?_); exact ⟨rfl, rfl, rfl⟩)
        | ((with_reducible refine fin_i ?_); (conv => whnf); refine ⟨rfl, ?_⟩)
        | refine ⟨hin, ?_⟩
        | refine ⟨hl, ?_⟩
        | refine ⟨⟨hl, portsB_in (by simp_all [nd])⟩, ?_⟩
        | refine ⟨of_decide_eq_true rfl, ?_⟩
        | refine ⟨fun _ => of_decide_eq_true rfl, ?_⟩
        | ((with_reducible refine ⟨?_, ?_⟩); (focus (intros; simp_all; done)))
        | ((with_reducible refine ⟨?_, ?_⟩); (focus (intros; omega)))) <;> (try (conv => whnf)))
      all_goals ((with_reducible refine leaf_i ?_); (conv => whnf))
      repeat' ((with_reducible refine And.intro ?_ ?_) <;> (try (conv => whnf)))
      all_goals (try (first | with_reducible rfl | exact True.intro | rfl | exact id | exact fun h => h | exact fun _ => rfl))
      all_goals (first | rfl | (simp_all [nodeE, nd]; done) | trace_state)
end Go.Proofs.Ytbgcgokikekmoaa

/- The document's functions of layer 9: may, To, Same. -/
namespace Go.Proofs.Ytbgcgokikekmoaa
set_option linter.unusedVariables false
set_option linter.unusedSimpArgs false
open Go Go.RowKit Go.Proofs.Ytbgcgokikekmoaa.Eng

def fitG (g : List Nd) : Prop := g.length < 4611686018427387904 ∧ ∀ x : Nd, x ∈ g → (Nd.ins x).length < 4611686018427387904
def k_rto : Sig := .arg (shR tN) fun g => .arg shI fun i => .done { pre := (toG g i).length ≤ 1000000000 ∧ fitG g, res := .rl true tP (toG g i) }

set_option maxHeartbeats 4000000 in
theorem c_rto : FnOk Try.prog 50 k_rto.con := by
  refine fnOkS mixed tys_ok (cs := []) trivial Try.func50 rfl (by kernel_rfl) Try.ntmps50 _ (h := ?_)
  intro g i
  refine ⟨rfl, fun hp => ?_⟩
  obtain ⟨hp1, hp2, hp3⟩ := hp
  conv => whnf
  repeat' ((first
    | with_reducible refine ⟨fun h => h, ?_⟩
    | with_reducible refine ⟨pk1, ?_⟩
    | with_reducible refine ⟨pk2, ?_⟩
    | with_reducible refine ⟨pk3, ?_⟩
    | with_reducible refine ⟨pk4, ?_⟩
    | with_reducible refine ⟨pk5, ?_⟩
    | with_reducible refine ⟨pk6, ?_⟩
    | with_reducible refine ⟨trivial, ?_⟩
    | with_reducible refine ⟨fun _ => trivial, ?_⟩
    | with_reducible refine ⟨rfl, ?_⟩
    | with_reducible refine every_i (fun hd => ?_)
    | with_reducible refine fork_t (by assumption) ?_
    | with_reducible refine fork_f (by assumption) ?_
    | refine fork_t rfl ?_
    | refine fork_f rfl ?_
    | with_reducible refine fork_i (fun h => ?_) (fun h => ?_)
    | with_reducible refine both_i ?_ ?_
    | ((with_reducible refine alike_i ?_); exact ⟨rfl, rfl, rfl⟩)
    | ((with_reducible refine fin_i ?_); (conv => whnf); refine ⟨rfl, ?_⟩)
    | refine ⟨of_decide_eq_true rfl, ?_⟩
    | refine ⟨fun _ => of_decide_eq_true rfl, ?_⟩
    | ((with_reducible refine ⟨?_, ?_⟩); (focus (intros; simp_all; done)))
    | ((with_reducible refine ⟨?_, ?_⟩); (focus (intros; omega)))) <;> (try (conv => whnf)))
  refine looped (σ := Nat × List (El tP)) (fun x => [(6, I x.1), (5, .ow 0 2 x.2.length)]) (fun x => [.row true tP 65 x.2]) (fun x => x.1 ≤ g.length ∧ x.2 ++ toOut i x.1 (g.drop x.1) = toG g i) (fun x => g.length - x.1) (0, []) ⟨Nat.zero_le _, rfl⟩ ?_ ?_
  · conv => whnf
    refine ⟨rfl, leaf_i ?_⟩
    repeat' ((with_reducible refine And.intro ?_ ?_) <;> (try (conv => whnf)))
    all_goals (try (first | with_reducible rfl | exact True.intro | rfl | exact id | exact fun h => h | exact fun _ => rfl))
  · rintro ⟨j, l⟩ ⟨hj, hl⟩
    dsimp only at hj hl
    conv => whnf
    repeat' ((first
      | with_reducible refine ⟨fun h => h, ?_⟩
      | with_reducible refine ⟨pk1, ?_⟩
      | with_reducible refine ⟨pk2, ?_⟩
      | with_reducible refine ⟨pk3, ?_⟩
      | with_reducible refine ⟨pk4, ?_⟩
      | with_reducible refine ⟨pk5, ?_⟩
      | with_reducible refine ⟨pk6, ?_⟩
      | with_reducible refine ⟨trivial, ?_⟩
      | with_reducible refine ⟨fun _ => trivial, ?_⟩
      | with_reducible refine ⟨rfl, ?_⟩
      | with_reducible refine every_i (fun hd => ?_)
      | with_reducible refine fork_t (by assumption) ?_
      | with_reducible refine fork_f (by assumption) ?_
      | refine fork_t rfl ?_
      | refine fork_f rfl ?_
      | with_reducible refine fork_i (fun h => ?_) (fun h => ?_)
      | with_reducible refine both_i ?_ ?_
      | ((with_reducible refine alike_i ?_); exact ⟨rfl, rfl, rfl⟩)
      | ((with_reducible refine fin_i ?_); (conv => whnf); refine ⟨rfl, ?_⟩)
      | refine ⟨of_decide_eq_true rfl, ?_⟩
      | refine ⟨fun _ => of_decide_eq_true rfl, ?_⟩
      | ((with_reducible refine ⟨?_, ?_⟩); (focus (intros; simp_all; done)))
      | ((with_reducible refine ⟨?_, ?_⟩); (focus (intros; omega)))) <;> (try (conv => whnf)))
    · have hj' : j < g.length := lt_t (by assumption)
      have hm := getE_mem g hj'
      have hn := hp3 _ hm
      rw [drop_get g hj'] at hl
      refine looped (σ := Nat × List (El tP)) (fun x => [(7, I x.1), (5, .ow 0 2 x.2.length)]) (fun x => [.row true tP 65 x.2]) (fun x => x.1 ≤ (Nd.ins (getE tN g j)).length ∧ x.2 ++ (toIn j i x.1 ((Nd.ins (getE tN g j)).drop x.1) ++ toOut i (j + 1) (g.drop (j + 1))) = toG g i) (fun x => (Nd.ins (getE tN g j)).length - x.1) (0, l) ⟨Nat.zero_le _, hl⟩ ?_ ?_
      · conv => whnf
        refine ⟨rfl, leaf_i ?_⟩
        repeat' ((with_reducible refine And.intro ?_ ?_) <;> (try (conv => whnf)))
        all_goals (try (first | with_reducible rfl | exact True.intro | rfl | exact id | exact fun h => h | exact fun _ => rfl))
      · rintro ⟨k, l⟩ ⟨hk, hl⟩
        dsimp only at hk hl
        conv => whnf
        repeat' ((first
          | with_reducible refine ⟨fun h => h, ?_⟩
          | with_reducible refine ⟨pk1, ?_⟩
          | with_reducible refine ⟨pk2, ?_⟩
          | with_reducible refine ⟨pk3, ?_⟩
          | with_reducible refine ⟨pk4, ?_⟩
          | with_reducible refine ⟨pk5, ?_⟩
          | with_reducible refine ⟨pk6, ?_⟩
          | with_reducible refine ⟨trivial, ?_⟩
          | with_reducible refine ⟨fun _ => trivial, ?_⟩
          | with_reducible refine ⟨rfl, ?_⟩
          | with_reducible refine every_i (fun hd => ?_)
          | with_reducible refine fork_t (by assumption) ?_
          | with_reducible refine fork_f (by assumption) ?_
          | refine fork_t rfl ?_
          | refine fork_f rfl ?_
          | with_reducible refine fork_i (fun h => ?_) (fun h => ?_)
          | with_reducible refine both_i ?_ ?_
          | ((with_reducible refine alike_i ?_); exact ⟨rfl, rfl, rfl⟩)
          | ((with_reducible refine fin_i ?_); (conv => whnf); refine ⟨rfl, ?_⟩)
          | refine ⟨of_decide_eq_true rfl, ?_⟩
          | refine ⟨fun _ => of_decide_eq_true rfl, ?_⟩
          | ((with_reducible refine ⟨?_, ?_⟩); (focus (intros; simp_all; done)))
          | ((with_reducible refine ⟨?_, ?_⟩); (focus (intros; omega)))) <;> (try (conv => whnf)))
        · have hk' : k < (Nd.ins (getE tN g j)).length := lt_t (by assumption)
          have hx : (getE tI (Nd.ins (getE tN g j)) k).1 = i := beq_t (by assumption)
          rw [drop_get _ hk', toIn, if_pos hx] at hl
          refine ⟨?_, ?_⟩
          · have := congrArg List.length hl
            simp only [List.length_append, List.length_cons, List.length_nil] at this ⊢
            omega
          (conv => whnf)
          conv => whnf
          repeat' ((first
            | with_reducible refine ⟨fun h => h, ?_⟩
            | with_reducible refine ⟨pk1, ?_⟩
            | with_reducible refine ⟨pk2, ?_⟩
            | with_reducible refine ⟨pk3, ?_⟩
            | with_reducible refine ⟨pk4, ?_⟩
            | with_reducible refine ⟨pk5, ?_⟩
            | with_reducible refine ⟨pk6, ?_⟩
            | with_reducible refine ⟨trivial, ?_⟩
            | with_reducible refine ⟨fun _ => trivial, ?_⟩
            | with_reducible refine ⟨rfl, ?_⟩
            | with_reducible refine every_i (fun hd => ?_)
            | with_reducible refine fork_t (by assumption) ?_
            | with_reducible refine fork_f (by assumption) ?_
            | refine fork_t rfl ?_
            | refine fork_f rfl ?_
            | with_reducible refine fork_i (fun h => ?_) (fun h => ?_)
            | with_reducible refine both_i ?_ ?_
            | ((with_reducible refine alike_i ?_); exact ⟨rfl, rfl, rfl⟩)
            | ((with_reducible refine fin_i ?_); (conv => whnf); refine ⟨rfl, ?_⟩)
            | refine ⟨of_decide_eq_true rfl, ?_⟩
            | refine ⟨fun _ => of_decide_eq_true rfl, ?_⟩
            | ((with_reducible refine ⟨?_, ?_⟩); (focus (intros; simp_all; done)))
            | ((with_reducible refine ⟨?_, ?_⟩); (focus (intros; omega)))) <;> (try (conv => whnf)))
          refine next_i (k + 1, l ++ [((j : Int), (k : Int), ())]) ⟨hk', by simpa using hl⟩ (by dsimp only; omega) rfl rfl ?_
          conv => whnf
          refine ⟨rfl, leaf_i ?_⟩
          repeat' ((with_reducible refine And.intro ?_ ?_) <;> (try (conv => whnf)))
          all_goals (try (first | with_reducible rfl | exact True.intro | rfl | exact id | exact fun h => h | exact fun _ => rfl))
          all_goals (try (first | rfl | exact wrapS (by dsimp only; omega)))
        · have hk' : k < (Nd.ins (getE tN g j)).length := lt_t (by assumption)
          have hx : ¬ (getE tI (Nd.ins (getE tN g j)) k).1 = i := beq_f (by assumption)
          rw [drop_get _ hk', toIn, if_neg hx] at hl
          refine next_i (k + 1, l) ⟨hk', by simpa using hl⟩ (by dsimp only; omega) rfl rfl ?_
          conv => whnf
          refine ⟨rfl, leaf_i ?_⟩
          repeat' ((with_reducible refine And.intro ?_ ?_) <;> (try (conv => whnf)))
          all_goals (try (first | with_reducible rfl | exact True.intro | rfl | exact id | exact fun h => h | exact fun _ => rfl))
          all_goals (try (first | rfl | exact wrapS (by dsimp only; omega)))
        · have hk' : (Nd.ins (getE tN g j)).length ≤ k := lt_f (by assumption)
          rw [List.drop_eq_nil_of_le hk', toIn, List.nil_append] at hl
          refine next_i (j + 1, l) ⟨hj', hl⟩ (by dsimp only; omega) rfl rfl ?_
          conv => whnf
          refine ⟨rfl, leaf_i ?_⟩
          repeat' ((with_reducible refine And.intro ?_ ?_) <;> (try (conv => whnf)))
          all_goals (try (first | with_reducible rfl | exact True.intro | rfl | exact id | exact fun h => h | exact fun _ => rfl))
          all_goals (try (first | rfl | exact wrapS (by dsimp only; omega)))
    · have hj' : g.length ≤ j := lt_f (by assumption)
      rw [List.drop_eq_nil_of_le hj', toOut, List.append_nil] at hl
      all_goals ((with_reducible refine leaf_i ?_); (conv => whnf))
      repeat' ((with_reducible refine And.intro ?_ ?_) <;> (try (conv => whnf)))
      all_goals (try (first | with_reducible rfl | exact True.intro | rfl | exact id | exact fun h => h | exact fun _ => rfl))
      all_goals exact hl

def k_rsame : Sig := .arg (shR tN) fun a => .arg (shR tN) fun b => .done { pre := fitG a, res := B (eqG a b) }
set_option maxRecDepth 100000 in
set_option maxHeartbeats 4000000 in
theorem c_rsame : FnOk Try.prog 14 k_rsame.con := by
  refine fnOkS mixed tys_ok (cs := []) trivial Try.func14 rfl (by kernel_rfl) Try.ntmps14 _ (h := ?_)
  intro l m
  refine ⟨rfl, fun hp => ?_⟩
  obtain ⟨hp1, hp2⟩ := hp
  conv => whnf
  repeat' ((first
    | with_reducible refine ⟨fun h => h, ?_⟩
    | with_reducible refine ⟨pk1, ?_⟩
    | with_reducible refine ⟨pk2, ?_⟩
    | with_reducible refine ⟨pk3, ?_⟩
    | with_reducible refine ⟨pk4, ?_⟩
    | with_reducible refine ⟨pk5, ?_⟩
    | with_reducible refine ⟨pk6, ?_⟩
    | with_reducible refine ⟨trivial, ?_⟩
    | with_reducible refine ⟨fun _ => trivial, ?_⟩
    | with_reducible refine ⟨rfl, ?_⟩
    | with_reducible refine every_i (fun hd => ?_)
    | with_reducible refine fork_t (by assumption) ?_
    | with_reducible refine fork_f (by assumption) ?_
    | refine fork_t rfl ?_
    | refine fork_f rfl ?_
    | with_reducible refine fork_i (fun h => ?_) (fun h => ?_)
    | with_reducible refine both_i ?_ ?_
    | ((with_reducible refine alike_i ?_); exact ⟨rfl, rfl, rfl⟩)
    | ((with_reducible refine fin_i ?_); (conv => whnf); refine ⟨rfl, ?_⟩)
    | refine ⟨of_decide_eq_true rfl, ?_⟩
    | refine ⟨fun _ => of_decide_eq_true rfl, ?_⟩
    | ((with_reducible refine ⟨?_, ?_⟩); (focus (intros; simp_all; done)))
    | ((with_reducible refine ⟨?_, ?_⟩); (focus (intros; omega)))) <;> (try (conv => whnf)))
  · have hn : l.length ≠ m.length := bnl_t h
    all_goals ((with_reducible refine leaf_i ?_); (conv => whnf))
    repeat' ((with_reducible refine And.intro ?_ ?_) <;> (try (conv => whnf)))
    all_goals (try (first | with_reducible rfl | exact True.intro | rfl | exact id | exact fun h => h | exact fun _ => rfl))
    all_goals (rw [eqG_len hn])
  · have hn : l.length = m.length := bnl_f h
    refine looped (σ := Nat) (fun j => [(5, I j)]) (fun _ => []) (fun j => j ≤ l.length ∧ eqG (l.drop j) (m.drop j) = eqG l m) (fun j => l.length - j) 0 ⟨Nat.zero_le _, rfl⟩ ?_ ?_
    · conv => whnf
      refine ⟨rfl, leaf_i ?_⟩
      repeat' ((with_reducible refine And.intro ?_ ?_) <;> (try (conv => whnf)))
      all_goals (try (first | with_reducible rfl | exact True.intro | rfl | exact id | exact fun h => h | exact fun _ => rfl))
    · rintro j ⟨hj, hl⟩
      conv => whnf
      repeat' ((first
        | with_reducible refine ⟨fun h => h, ?_⟩
        | with_reducible refine ⟨pk1, ?_⟩
        | with_reducible refine ⟨pk2, ?_⟩
        | with_reducible refine ⟨pk3, ?_⟩
        | with_reducible refine ⟨pk4, ?_⟩
        | with_reducible refine ⟨pk5, ?_⟩
        | with_reducible refine ⟨pk6, ?_⟩
        | with_reducible refine ⟨trivial, ?_⟩
        | with_reducible refine ⟨fun _ => trivial, ?_⟩
        | with_reducible refine ⟨rfl, ?_⟩
        | with_reducible refine every_i (fun hd => ?_)
        | with_reducible refine fork_t (by assumption) ?_
        | with_reducible refine fork_f (by assumption) ?_
        | refine fork_t rfl ?_
        | refine fork_f rfl ?_
        | with_reducible refine fork_i (fun h => ?_) (fun h => ?_)
        | with_reducible refine both_i ?_ ?_
        | ((with_reducible refine alike_i ?_); exact ⟨rfl, rfl, rfl⟩)
        | ((with_reducible refine fin_i ?_); (conv => whnf); refine ⟨rfl, ?_⟩)
        | refine ⟨of_decide_eq_true rfl, ?_⟩
        | refine ⟨fun _ => of_decide_eq_true rfl, ?_⟩
        | ((with_reducible refine ⟨?_, ?_⟩); (focus (intros; simp_all; done)))
        | ((with_reducible refine ⟨?_, ?_⟩); (focus (intros; omega)))) <;> (try (conv => whnf)))
      · have hj' : j < l.length := lt_t (by assumption)
        have hx := neH_t (x := getE tN l j) (y := getE tN m j) h
        rw [eqG_step hj' (by omega), hx] at hl
        all_goals ((with_reducible refine leaf_i ?_); (conv => whnf))
        repeat' ((with_reducible refine And.intro ?_ ?_) <;> (try (conv => whnf)))
        all_goals (try (first | with_reducible rfl | exact True.intro | rfl | exact id | exact fun h => h | exact fun _ => rfl))
        all_goals (rw [← hl]; rfl)
      · have hj' : j < l.length := lt_t (by assumption)
        obtain ⟨hx1, hx2⟩ := neH_f (x := getE tN l j) (y := getE tN m j) h
        rw [eqG_step hj' (by omega), hx1] at hl
        have hx3 := hp2 _ (getE_mem l hj')
        refine kept [6, 7] ?_
        (conv => whnf)
        refine looped (σ := Nat) (fun k => [(8, I k)]) (fun _ => [.cells (ndC false (getE tN l j)), .cells (ndC false (getE tN m j))]) (fun k => k ≤ (Nd.ins (getE tN l j)).length ∧ eqI ((Nd.ins (getE tN l j)).drop k) ((Nd.ins (getE tN m j)).drop k) = eqI (Nd.ins (getE tN l j)) (Nd.ins (getE tN m j))) (fun k => (Nd.ins (getE tN l j)).length - k) 0 ⟨Nat.zero_le _, rfl⟩ ?_ ?_
        · conv => whnf
          refine ⟨rfl, leaf_i ?_⟩
          repeat' ((with_reducible refine And.intro ?_ ?_) <;> (try (conv => whnf)))
          all_goals (try (first | with_reducible rfl | exact True.intro | rfl | exact id | exact fun h => h | exact fun _ => rfl))
        · rintro k ⟨hk, hi⟩
          conv => whnf
          repeat' ((first
            | with_reducible refine ⟨fun h => h, ?_⟩
            | with_reducible refine ⟨pk1, ?_⟩
            | with_reducible refine ⟨pk2, ?_⟩
            | with_reducible refine ⟨pk3, ?_⟩
            | with_reducible refine ⟨pk4, ?_⟩
            | with_reducible refine ⟨pk5, ?_⟩
            | with_reducible refine ⟨pk6, ?_⟩
            | with_reducible refine ⟨trivial, ?_⟩
            | with_reducible refine ⟨fun _ => trivial, ?_⟩
            | with_reducible refine ⟨rfl, ?_⟩
            | with_reducible refine every_i (fun hd => ?_)
            | with_reducible refine fork_t (by assumption) ?_
            | with_reducible refine fork_f (by assumption) ?_
            | refine fork_t rfl ?_
            | refine fork_f rfl ?_
            | with_reducible refine fork_i (fun h => ?_) (fun h => ?_)
            | with_reducible refine both_i ?_ ?_
            | ((with_reducible refine alike_i ?_); exact ⟨rfl, rfl, rfl⟩)
            | ((with_reducible refine fin_i ?_); (conv => whnf); refine ⟨rfl, ?_⟩)
            | refine ⟨of_decide_eq_true rfl, ?_⟩
            | refine ⟨fun _ => of_decide_eq_true rfl, ?_⟩
            | ((with_reducible refine ⟨?_, ?_⟩); (focus (intros; simp_all; done)))
            | ((with_reducible refine ⟨?_, ?_⟩); (focus (intros; omega)))) <;> (try (conv => whnf)))
          · have hk' : k < (Nd.ins (getE tN l j)).length := lt_t (by assumption)
            have hx : (getE tI (Nd.ins (getE tN l j)) k).1 ≠ (getE tI (Nd.ins (getE tN m j)) k).1 := bne_t (by assumption)
            rw [eqI_step hk' (by omega), beq_eq_false_iff_ne.2 hx] at hi
            rw [← hi] at hl
            all_goals ((with_reducible refine leaf_i ?_); (conv => whnf))
            repeat' ((with_reducible refine And.intro ?_ ?_) <;> (try (conv => whnf)))
            all_goals (try (first | with_reducible rfl | exact True.intro | rfl | exact id | exact fun h => h | exact fun _ => rfl))
            all_goals (rw [← hl]; rfl)
          · have hk' : k < (Nd.ins (getE tN l j)).length := lt_t (by assumption)
            have hx : (getE tI (Nd.ins (getE tN l j)) k).1 = (getE tI (Nd.ins (getE tN m j)) k).1 := bne_f (by assumption)
            rw [eqI_step hk' (by omega), beq_iff_eq.2 hx, Bool.true_and] at hi
            refine next_i (k + 1) ⟨hk', hi⟩ (by omega) rfl rfl ?_
            conv => whnf
            refine ⟨rfl, leaf_i ?_⟩
            repeat' ((with_reducible refine And.intro ?_ ?_) <;> (try (conv => whnf)))
            all_goals (try (first | with_reducible rfl | exact True.intro | rfl | exact id | exact fun h => h | exact fun _ => rfl))
            all_goals exact wrapS (Nat.lt_trans hk' hx3)
          · have hk' : (Nd.ins (getE tN l j)).length ≤ k := lt_f (by assumption)
            rw [eqI_end hk' (by omega)] at hi
            rw [← hi, Bool.true_and] at hl
            refine next_i (j + 1) ⟨hj', hl⟩ (by omega) rfl rfl ?_
            conv => whnf
            refine ⟨rfl, leaf_i ?_⟩
            repeat' ((with_reducible refine And.intro ?_ ?_) <;> (try (conv => whnf)))
            all_goals (try (first | with_reducible rfl | exact True.intro | rfl | exact id | exact fun h => h | exact fun _ => rfl))
            all_goals exact wrapS (Nat.lt_trans hj' hp1)
      · have hj' : l.length ≤ j := lt_f (by assumption)
        rw [eqG_end hj' (by omega)] at hl
        all_goals ((with_reducible refine leaf_i ?_); (conv => whnf))
        repeat' ((with_reducible refine And.intro ?_ ?_) <;> (try (conv => whnf)))
        all_goals (try (first | with_reducible rfl | exact True.intro | rfl | exact id | exact fun h => h | exact fun _ => rfl))
        all_goals (rw [← hl])

def k_rmay : Sig := .arg (shR tN) fun g => .done { pre := fitG g, res := B (mayG g) }
set_option maxRecDepth 100000 in
set_option maxHeartbeats 4000000 in
theorem c_rmay : FnOk Try.prog 48 k_rmay.con := by
  refine fnOkS mixed tys_ok (cs := []) trivial Try.func48 rfl (by kernel_rfl) Try.ntmps48 _ (h := ?_)
  intro g
  refine ⟨rfl, fun hp => ?_⟩
  obtain ⟨hp1, hp2⟩ := hp
  conv => whnf
  repeat' ((first
    | with_reducible refine ⟨fun h => h, ?_⟩
    | with_reducible refine ⟨pk1, ?_⟩
    | with_reducible refine ⟨pk2, ?_⟩
    | with_reducible refine ⟨pk3, ?_⟩
    | with_reducible refine ⟨pk4, ?_⟩
    | with_reducible refine ⟨pk5, ?_⟩
    | with_reducible refine ⟨pk6, ?_⟩
    | with_reducible refine ⟨trivial, ?_⟩
    | with_reducible refine ⟨fun _ => trivial, ?_⟩
    | with_reducible refine ⟨rfl, ?_⟩
    | with_reducible refine every_i (fun hd => ?_)
    | with_reducible refine fork_t (by assumption) ?_
    | with_reducible refine fork_f (by assumption) ?_
    | refine fork_t rfl ?_
    | refine fork_f rfl ?_
    | with_reducible refine fork_i (fun h => ?_) (fun h => ?_)
    | with_reducible refine both_i ?_ ?_
    | ((with_reducible refine alike_i ?_); exact ⟨rfl, rfl, rfl⟩)
    | ((with_reducible refine fin_i ?_); (conv => whnf); refine ⟨rfl, ?_⟩)
    | refine ⟨of_decide_eq_true rfl, ?_⟩
    | refine ⟨fun _ => of_decide_eq_true rfl, ?_⟩
    | ((with_reducible refine ⟨?_, ?_⟩); (focus (intros; simp_all; done)))
    | ((with_reducible refine ⟨?_, ?_⟩); (focus (intros; omega)))) <;> (try (conv => whnf)))
  refine looped (σ := Nat) (fun j => [(3, I j)]) (fun _ => []) (fun j => j ≤ g.length ∧ (g.drop j).all mayN = g.all mayN) (fun j => g.length - j) 0 ⟨Nat.zero_le _, rfl⟩ ?_ ?_
  · conv => whnf
    refine ⟨rfl, leaf_i ?_⟩
    repeat' ((with_reducible refine And.intro ?_ ?_) <;> (try (conv => whnf)))
    all_goals (try (first | with_reducible rfl | exact True.intro | rfl | exact id | exact fun h => h | exact fun _ => rfl))
  · rintro j ⟨hj, hl⟩
    conv => whnf
    repeat' ((first
      | with_reducible refine ⟨fun h => h, ?_⟩
      | with_reducible refine ⟨pk1, ?_⟩
      | with_reducible refine ⟨pk2, ?_⟩
      | with_reducible refine ⟨pk3, ?_⟩
      | with_reducible refine ⟨pk4, ?_⟩
      | with_reducible refine ⟨pk5, ?_⟩
      | with_reducible refine ⟨pk6, ?_⟩
      | with_reducible refine ⟨trivial, ?_⟩
      | with_reducible refine ⟨fun _ => trivial, ?_⟩
      | with_reducible refine ⟨rfl, ?_⟩
      | with_reducible refine every_i (fun hd => ?_)
      | with_reducible refine fork_t (by assumption) ?_
      | with_reducible refine fork_f (by assumption) ?_
      | refine fork_t rfl ?_
      | refine fork_f rfl ?_
      | with_reducible refine fork_i (fun h => ?_) (fun h => ?_)
      | with_reducible refine both_i ?_ ?_
      | ((with_reducible refine alike_i ?_); exact ⟨rfl, rfl, rfl⟩)
      | ((with_reducible refine fin_i ?_); (conv => whnf); refine ⟨rfl, ?_⟩)
      | refine ⟨of_decide_eq_true rfl, ?_⟩
      | refine ⟨fun _ => of_decide_eq_true rfl, ?_⟩
      | ((with_reducible refine ⟨?_, ?_⟩); (focus (intros; simp_all; done)))
      | ((with_reducible refine ⟨?_, ?_⟩); (focus (intros; omega)))) <;> (try (conv => whnf)))
    · have hj' : j < g.length := lt_t (by assumption)
      have hx := maH_t (n := getE tN g j) h
      rw [drop_get g hj', List.all_cons, hx, Bool.false_and] at hl
      all_goals ((with_reducible refine leaf_i ?_); (conv => whnf))
      repeat' ((with_reducible refine And.intro ?_ ?_) <;> (try (conv => whnf)))
      all_goals (try (first | with_reducible rfl | exact True.intro | rfl | exact id | exact fun h => h | exact fun _ => rfl))
      all_goals (unfold mayG; rw [← hl]; rfl)
    · have hj' : j < g.length := lt_t (by assumption)
      have hx := maH_f (n := getE tN g j) h
      rw [drop_get g hj', List.all_cons, hx] at hl
      have hx3 := hp2 _ (getE_mem g hj')
      refine looped (σ := Nat) (fun k => [(4, I k)]) (fun _ => []) (fun k => k ≤ (Nd.ins (getE tN g j)).length ∧ ((Nd.ins (getE tN g j)).drop k).any (fun x => wrongI x.1) = (Nd.ins (getE tN g j)).any fun x => wrongI x.1) (fun k => (Nd.ins (getE tN g j)).length - k) 0 ⟨Nat.zero_le _, rfl⟩ ?_ ?_
      · conv => whnf
        refine ⟨rfl, leaf_i ?_⟩
        repeat' ((with_reducible refine And.intro ?_ ?_) <;> (try (conv => whnf)))
        all_goals (try (first | with_reducible rfl | exact True.intro | rfl | exact id | exact fun h => h | exact fun _ => rfl))
      · rintro k ⟨hk, hi⟩
        conv => whnf
        repeat' ((first
          | with_reducible refine ⟨fun h => h, ?_⟩
          | with_reducible refine ⟨pk1, ?_⟩
          | with_reducible refine ⟨pk2, ?_⟩
          | with_reducible refine ⟨pk3, ?_⟩
          | with_reducible refine ⟨pk4, ?_⟩
          | with_reducible refine ⟨pk5, ?_⟩
          | with_reducible refine ⟨pk6, ?_⟩
          | with_reducible refine ⟨trivial, ?_⟩
          | with_reducible refine ⟨fun _ => trivial, ?_⟩
          | with_reducible refine ⟨rfl, ?_⟩
          | with_reducible refine every_i (fun hd => ?_)
          | with_reducible refine fork_t (by assumption) ?_
          | with_reducible refine fork_f (by assumption) ?_
          | refine fork_t rfl ?_
          | refine fork_f rfl ?_
          | with_reducible refine fork_i (fun h => ?_) (fun h => ?_)
          | with_reducible refine both_i ?_ ?_
          | ((with_reducible refine alike_i ?_); exact ⟨rfl, rfl, rfl⟩)
          | ((with_reducible refine fin_i ?_); (conv => whnf); refine ⟨rfl, ?_⟩)
          | refine ⟨of_decide_eq_true rfl, ?_⟩
          | refine ⟨fun _ => of_decide_eq_true rfl, ?_⟩
          | ((with_reducible refine ⟨?_, ?_⟩); (focus (intros; simp_all; done)))
          | ((with_reducible refine ⟨?_, ?_⟩); (focus (intros; omega)))) <;> (try (conv => whnf)))
        · have hk' : k < (Nd.ins (getE tN g j)).length := lt_t (by assumption)
          rw [wr_any hk' h hi] at hl
          all_goals ((with_reducible refine leaf_i ?_); (conv => whnf))
          repeat' ((with_reducible refine And.intro ?_ ?_) <;> (try (conv => whnf)))
          all_goals (try (first | with_reducible rfl | exact True.intro | rfl | exact id | exact fun h => h | exact fun _ => rfl))
          all_goals (unfold mayG; rw [← hl]; rfl)
        · have hk' : k < (Nd.ins (getE tN g j)).length := lt_t (by assumption)
          have hw : wrongI (getE tI (Nd.ins (getE tN g j)) k).1 = false := (wr_eq _).symm.trans h
          rw [drop_get _ hk', List.any_cons, hw, Bool.false_or] at hi
          refine next_i (k + 1) ⟨hk', hi⟩ (by omega) rfl rfl ?_
          conv => whnf
          refine ⟨rfl, leaf_i ?_⟩
          repeat' ((with_reducible refine And.intro ?_ ?_) <;> (try (conv => whnf)))
          all_goals (try (first | with_reducible rfl | exact True.intro | rfl | exact id | exact fun h => h | exact fun _ => rfl))
          all_goals exact wrapS (Nat.lt_trans hk' hx3)
        · have hk' : (Nd.ins (getE tN g j)).length ≤ k := lt_f (by assumption)
          rw [List.drop_eq_nil_of_le hk', List.any_nil] at hi
          rw [← hi, Bool.not_false, Bool.true_and] at hl
          refine next_i (j + 1) ⟨hj', hl⟩ (by omega) rfl rfl ?_
          conv => whnf
          refine ⟨rfl, leaf_i ?_⟩
          repeat' ((with_reducible refine And.intro ?_ ?_) <;> (try (conv => whnf)))
          all_goals (try (first | with_reducible rfl | exact True.intro | rfl | exact id | exact fun h => h | exact fun _ => rfl))
          all_goals exact wrapS (Nat.lt_trans hj' hp1)
    · have hj' : g.length ≤ j := lt_f (by assumption)
      rw [List.drop_eq_nil_of_le hj', List.all_nil] at hl
      all_goals ((with_reducible refine leaf_i ?_); (conv => whnf))
      repeat' ((with_reducible refine And.intro ?_ ?_) <;> (try (conv => whnf)))
      all_goals (try (first | with_reducible rfl | exact True.intro | rfl | exact id | exact fun h => h | exact fun _ => rfl))
      all_goals (unfold mayG; rw [← hl, Bool.true_and, Bool.cond_false_right])
end Go.Proofs.Ytbgcgokikekmoaa

/- Layer 10: a node's numbers. -/
namespace Go.Proofs.Ytbgcgokikekmoaa
set_option linter.unusedVariables false
set_option linter.unusedSimpArgs false
set_option maxRecDepth 100000
open Go Go.RowKit Go.Proofs.Ytbgcgokikekmoaa.Eng

def k_plain : Sig := .arg (shT tN) fun n => .done { pre := True, res := B (plB n) }
def k_num1 : Sig := .arg (shT tN) fun n => .done { pre := True, res := B (n1B n) }
def k_num2 : Sig := .arg (shT tN) fun n => .done { pre := True, res := B (n2B n) }
def k_num3 : Sig := .arg (shT tN) fun n => .done { pre := True, res := B (n3B n) }
def k_num4 : Sig := .arg (shT tN) fun n => .done { pre := True, res := B (n4B n) }
def k_numbers : Sig := .arg (shT tN) fun n => .done { pre := True, res := B (numB n) }
set_option maxHeartbeats 4000000 in
theorem c_plain : FnOk Try.prog 39 k_plain.con := by
  refine fnOkS mixed tys_ok (cs := []) trivial Try.func39 rfl (by kernel_rfl) Try.ntmps39 _ (h := ?_)
  rintro n
  refine ⟨rfl, fun _ => ?_⟩
  conv => whnf
  repeat' ((first
    | with_reducible refine ⟨fun h => h, ?_⟩
    | with_reducible refine ⟨pk1, ?_⟩
    | with_reducible refine ⟨pk2, ?_⟩
    | with_reducible refine ⟨pk3, ?_⟩
    | with_reducible refine ⟨pk4, ?_⟩
    | with_reducible refine ⟨pk5, ?_⟩
    | with_reducible refine ⟨pk6, ?_⟩
    | with_reducible refine ⟨trivial, ?_⟩
    | with_reducible refine ⟨fun _ => trivial, ?_⟩
    | with_reducible refine ⟨rfl, ?_⟩
    | with_reducible refine every_i (fun hd => ?_)
    | with_reducible refine fork_t (by assumption) ?_
    | with_reducible refine fork_f (by assumption) ?_
    | refine fork_t rfl ?_
    | refine fork_f rfl ?_
    | with_reducible refine fork_i (fun h => ?_) (fun h => ?_)
    | with_reducible refine both_i ?_ ?_
    | ((with_reducible refine alike_i ?_); exact ⟨rfl, rfl, rfl⟩)
    | ((with_reducible refine fin_i ?_); (conv => whnf); refine ⟨rfl, ?_⟩)
    | refine ⟨of_decide_eq_true rfl, ?_⟩
    | refine ⟨fun _ => of_decide_eq_true rfl, ?_⟩
    | ((with_reducible refine ⟨?_, ?_⟩); (focus (intros; simp_all; done)))
    | ((with_reducible refine ⟨?_, ?_⟩); (focus (intros; omega)))) <;> (try (conv => whnf)))
  all_goals ((with_reducible refine leaf_i ?_); (conv => whnf))
  repeat' ((with_reducible refine And.intro ?_ ?_) <;> (try (conv => whnf)))
  all_goals (try (first | with_reducible rfl | exact True.intro | rfl | exact id | exact fun h => h | exact fun _ => rfl))
set_option maxHeartbeats 4000000 in
theorem c_num1 : FnOk Try.prog 35 k_num1.con := by
  refine fnOkS mixed tys_ok (cs := []) trivial Try.func35 rfl (by kernel_rfl) Try.ntmps35 _ (h := ?_)
  rintro n
  refine ⟨rfl, fun _ => ?_⟩
  conv => whnf
  repeat' ((first
    | with_reducible refine ⟨fun h => h, ?_⟩
    | with_reducible refine ⟨pk1, ?_⟩
    | with_reducible refine ⟨pk2, ?_⟩
    | with_reducible refine ⟨pk3, ?_⟩
    | with_reducible refine ⟨pk4, ?_⟩
    | with_reducible refine ⟨pk5, ?_⟩
    | with_reducible refine ⟨pk6, ?_⟩
    | with_reducible refine ⟨trivial, ?_⟩
    | with_reducible refine ⟨fun _ => trivial, ?_⟩
    | with_reducible refine ⟨rfl, ?_⟩
    | with_reducible refine every_i (fun hd => ?_)
    | with_reducible refine fork_t (by assumption) ?_
    | with_reducible refine fork_f (by assumption) ?_
    | refine fork_t rfl ?_
    | refine fork_f rfl ?_
    | with_reducible refine fork_i (fun h => ?_) (fun h => ?_)
    | with_reducible refine both_i ?_ ?_
    | ((with_reducible refine alike_i ?_); exact ⟨rfl, rfl, rfl⟩)
    | ((with_reducible refine fin_i ?_); (conv => whnf); refine ⟨rfl, ?_⟩)
    | refine ⟨of_decide_eq_true rfl, ?_⟩
    | refine ⟨fun _ => of_decide_eq_true rfl, ?_⟩
    | ((with_reducible refine ⟨?_, ?_⟩); (focus (intros; simp_all; done)))
    | ((with_reducible refine ⟨?_, ?_⟩); (focus (intros; omega)))) <;> (try (conv => whnf)))
  all_goals ((with_reducible refine leaf_i ?_); (conv => whnf))
  repeat' ((with_reducible refine And.intro ?_ ?_) <;> (try (conv => whnf)))
  all_goals (try (first | with_reducible rfl | exact True.intro | rfl | exact id | exact fun h => h | exact fun _ => rfl))
set_option maxHeartbeats 4000000 in
theorem c_num2 : FnOk Try.prog 36 k_num2.con := by
  refine fnOkS mixed tys_ok (cs := []) trivial Try.func36 rfl (by kernel_rfl) Try.ntmps36 _ (h := ?_)
  rintro n
  refine ⟨rfl, fun _ => ?_⟩
  conv => whnf
  repeat' ((first
    | with_reducible refine ⟨fun h => h, ?_⟩
    | with_reducible refine ⟨pk1, ?_⟩
    | with_reducible refine ⟨pk2, ?_⟩
    | with_reducible refine ⟨pk3, ?_⟩
    | with_reducible refine ⟨pk4, ?_⟩
    | with_reducible refine ⟨pk5, ?_⟩
    | with_reducible refine ⟨pk6, ?_⟩
    | with_reducible refine ⟨trivial, ?_⟩
    | with_reducible refine ⟨fun _ => trivial, ?_⟩
    | with_reducible refine ⟨rfl, ?_⟩
    | with_reducible refine every_i (fun hd => ?_)
    | with_reducible refine fork_t (by assumption) ?_
    | with_reducible refine fork_f (by assumption) ?_
    | refine fork_t rfl ?_
    | refine fork_f rfl ?_
    | with_reducible refine fork_i (fun h => ?_) (fun h => ?_)
    | with_reducible refine both_i ?_ ?_
    | ((with_reducible refine alike_i ?_); exact ⟨rfl, rfl, rfl⟩)
    | ((with_reducible refine fin_i ?_); (conv => whnf); refine ⟨rfl, ?_⟩)
    | refine ⟨of_decide_eq_true rfl, ?_⟩
    | refine ⟨fun _ => of_decide_eq_true rfl, ?_⟩
    | ((with_reducible refine ⟨?_, ?_⟩); (focus (intros; simp_all; done)))
    | ((with_reducible refine ⟨?_, ?_⟩); (focus (intros; omega)))) <;> (try (conv => whnf)))
  all_goals ((with_reducible refine leaf_i ?_); (conv => whnf))
  repeat' ((with_reducible refine And.intro ?_ ?_) <;> (try (conv => whnf)))
  all_goals (try (first | with_reducible rfl | exact True.intro | rfl | exact id | exact fun h => h | exact fun _ => rfl))
set_option maxHeartbeats 4000000 in
theorem c_num3 : FnOk Try.prog 37 k_num3.con := by
  refine fnOkS mixed tys_ok (cs := []) trivial Try.func37 rfl (by kernel_rfl) Try.ntmps37 _ (h := ?_)
  rintro n
  refine ⟨rfl, fun _ => ?_⟩
  conv => whnf
  repeat' ((first
    | with_reducible refine ⟨fun h => h, ?_⟩
    | with_reducible refine ⟨pk1, ?_⟩
    | with_reducible refine ⟨pk2, ?_⟩
    | with_reducible refine ⟨pk3, ?_⟩
    | with_reducible refine ⟨pk4, ?_⟩
    | with_reducible refine ⟨pk5, ?_⟩
    | with_reducible refine ⟨pk6, ?_⟩
    | with_reducible refine ⟨trivial, ?_⟩
    | with_reducible refine ⟨fun _ => trivial, ?_⟩
    | with_reducible refine ⟨rfl, ?_⟩
    | with_reducible refine every_i (fun hd => ?_)
    | with_reducible refine fork_t (by assumption) ?_
    | with_reducible refine fork_f (by assumption) ?_
    | refine fork_t rfl ?_
    | refine fork_f rfl ?_
    | with_reducible refine fork_i (fun h => ?_) (fun h => ?_)
    | with_reducible refine both_i ?_ ?_
    | ((with_reducible refine alike_i ?_); exact ⟨rfl, rfl, rfl⟩)
    | ((with_reducible refine fin_i ?_); (conv => whnf); refine ⟨rfl, ?_⟩)
    | refine ⟨of_decide_eq_true rfl, ?_⟩
    | refine ⟨fun _ => of_decide_eq_true rfl, ?_⟩
    | ((with_reducible refine ⟨?_, ?_⟩); (focus (intros; simp_all; done)))
    | ((with_reducible refine ⟨?_, ?_⟩); (focus (intros; omega)))) <;> (try (conv => whnf)))
  all_goals ((with_reducible refine leaf_i ?_); (conv => whnf))
  repeat' ((with_reducible refine And.intro ?_ ?_) <;> (try (conv => whnf)))
  all_goals (try (first | with_reducible rfl | exact True.intro | rfl | exact id | exact fun h => h | exact fun _ => rfl))
set_option maxHeartbeats 4000000 in
theorem c_num4 : FnOk Try.prog 38 k_num4.con := by
  refine fnOkS mixed tys_ok (cs := []) trivial Try.func38 rfl (by kernel_rfl) Try.ntmps38 _ (h := ?_)
  rintro n
  refine ⟨rfl, fun _ => ?_⟩
  conv => whnf
  repeat' ((first
    | with_reducible refine ⟨fun h => h, ?_⟩
    | with_reducible refine ⟨pk1, ?_⟩
    | with_reducible refine ⟨pk2, ?_⟩
    | with_reducible refine ⟨pk3, ?_⟩
    | with_reducible refine ⟨pk4, ?_⟩
    | with_reducible refine ⟨pk5, ?_⟩
    | with_reducible refine ⟨pk6, ?_⟩
    | with_reducible refine ⟨trivial, ?_⟩
    | with_reducible refine ⟨fun _ => trivial, ?_⟩
    | with_reducible refine ⟨rfl, ?_⟩
    | with_reducible refine every_i (fun hd => ?_)
    | with_reducible refine fork_t (by assumption) ?_
    | with_reducible refine fork_f (by assumption) ?_
    | refine fork_t rfl ?_
    | refine fork_f rfl ?_
    | with_reducible refine fork_i (fun h => ?_) (fun h => ?_)
    | with_reducible refine both_i ?_ ?_
    | ((with_reducible refine alike_i ?_); exact ⟨rfl, rfl, rfl⟩)
    | ((with_reducible refine fin_i ?_); (conv => whnf); refine ⟨rfl, ?_⟩)
    | refine ⟨of_decide_eq_true rfl, ?_⟩
    | refine ⟨fun _ => of_decide_eq_true rfl, ?_⟩
    | ((with_reducible refine ⟨?_, ?_⟩); (focus (intros; simp_all; done)))
    | ((with_reducible refine ⟨?_, ?_⟩); (focus (intros; omega)))) <;> (try (conv => whnf)))
  all_goals ((with_reducible refine leaf_i ?_); (conv => whnf))
  repeat' ((with_reducible refine And.intro ?_ ?_) <;> (try (conv => whnf)))
  all_goals (try (first | with_reducible rfl | exact True.intro | rfl | exact id | exact fun h => h | exact fun _ => rfl))
set_option maxHeartbeats 4000000 in
theorem c_numbers : FnOk Try.prog 24 k_numbers.con := by
  refine fnOkS mixed tys_ok (cs := [(39, k_plain.con), (35, k_num1.con), (36, k_num2.con), (37, k_num3.con), (38, k_num4.con)]) ⟨c_plain, c_num1, c_num2, c_num3, c_num4, trivial⟩ Try.func24 rfl (by kernel_rfl) Try.ntmps24 _ (h := ?_)
  rintro ⟨k, n⟩
  refine ⟨rfl, fun _ => ?_⟩
  rcases kindCases k with h | h | h | h | h | h | h | h | h | h | h | ⟨m, h⟩ | ⟨m, h⟩ <;> subst h
  all_goals skip
  · conv => whnf
    repeat' ((first
      | with_reducible refine ⟨fun h => h, ?_⟩
      | with_reducible refine ⟨pk1, ?_⟩
      | with_reducible refine ⟨pk2, ?_⟩
      | with_reducible refine ⟨pk3, ?_⟩
      | with_reducible refine ⟨pk4, ?_⟩
      | with_reducible refine ⟨pk5, ?_⟩
      | with_reducible refine ⟨pk6, ?_⟩
      | with_reducible refine ⟨trivial, ?_⟩
      | with_reducible refine ⟨fun _ => trivial, ?_⟩
      | with_reducible refine ⟨rfl, ?_⟩
      | with_reducible refine every_i (fun hd => ?_)
      | with_reducible refine fork_t (by assumption) ?_
      | with_reducible refine fork_f (by assumption) ?_
      | refine fork_t rfl ?_
      | refine fork_f rfl ?_
      | with_reducible refine fork_i (fun h => ?_) (fun h => ?_)
      | with_reducible refine both_i ?_ ?_
      | ((with_reducible refine alike_i ?_); exact ⟨rfl, rfl, rfl⟩)
      | ((with_reducible refine fin_i ?_); (conv => whnf); refine ⟨rfl, ?_⟩)
      | refine ⟨of_decide_eq_true rfl, ?_⟩
      | refine ⟨fun _ => of_decide_eq_true rfl, ?_⟩
      | ((with_reducible refine ⟨?_, ?_⟩); (focus (intros; simp_all; done)))
      | ((with_reducible refine ⟨?_, ?_⟩); (focus (intros; omega)))) <;> (try (conv => whnf)))
    all_goals ((with_reducible refine leaf_i ?_); (conv => whnf))
    repeat' ((with_reducible refine And.intro ?_ ?_) <;> (try (conv => whnf)))
    all_goals (try (first | with_reducible rfl | exact True.intro | rfl | exact id | exact fun h => h | exact fun _ => rfl))
  · conv => whnf
    repeat' ((first
      | with_reducible refine ⟨fun h => h, ?_⟩
      | with_reducible refine ⟨pk1, ?_⟩
      | with_reducible refine ⟨pk2, ?_⟩
      | with_reducible refine ⟨pk3, ?_⟩
      | with_reducible refine ⟨pk4, ?_⟩
      | with_reducible refine ⟨pk5, ?_⟩
      | with_reducible refine ⟨pk6, ?_⟩
      | with_reducible refine ⟨trivial, ?_⟩
      | with_reducible refine ⟨fun _ => trivial, ?_⟩
      | with_reducible refine ⟨rfl, ?_⟩
      | with_reducible refine every_i (fun hd => ?_)
      | with_reducible refine fork_t (by assumption) ?_
      | with_reducible refine fork_f (by assumption) ?_
      | refine fork_t rfl ?_
      | refine fork_f rfl ?_
      | with_reducible refine fork_i (fun h => ?_) (fun h => ?_)
      | with_reducible refine both_i ?_ ?_
      | ((with_reducible refine alike_i ?_); exact ⟨rfl, rfl, rfl⟩)
      | ((with_reducible refine fin_i ?_); (conv => whnf); refine ⟨rfl, ?_⟩)
      | refine ⟨of_decide_eq_true rfl, ?_⟩
      | refine ⟨fun _ => of_decide_eq_true rfl, ?_⟩
      | ((with_reducible refine ⟨?_, ?_⟩); (focus (intros; simp_all; done)))
      | ((with_reducible refine ⟨?_, ?_⟩); (focus (intros; omega)))) <;> (try (conv => whnf)))
    all_goals ((with_reducible refine leaf_i ?_); (conv => whnf))
    repeat' ((with_reducible refine And.intro ?_ ?_) <;> (try (conv => whnf)))
    all_goals (try (first | with_reducible rfl | exact True.intro | rfl | exact id | exact fun h => h | exact fun _ => rfl))
  · conv => whnf
    repeat' ((first
      | with_reducible refine ⟨fun h => h, ?_⟩
      | with_reducible refine ⟨pk1, ?_⟩
      | with_reducible refine ⟨pk2, ?_⟩
      | with_reducible refine ⟨pk3, ?_⟩
      | with_reducible refine ⟨pk4, ?_⟩
      | with_reducible refine ⟨pk5, ?_⟩
      | with_reducible refine ⟨pk6, ?_⟩
      | with_reducible refine ⟨trivial, ?_⟩
      | with_reducible refine ⟨fun _ => trivial, ?_⟩
      | with_reducible refine ⟨rfl, ?_⟩
      | with_reducible refine every_i (fun hd => ?_)
      | with_reducible refine fork_t (by assumption) ?_
      | with_reducible refine fork_f (by assumption) ?_
      | refine fork_t rfl ?_
      | refine fork_f rfl ?_
      | with_reducible refine fork_i (fun h => ?_) (fun h => ?_)
      | with_reducible refine both_i ?_ ?_
      | ((with_reducible refine alike_i ?_); exact ⟨rfl, rfl, rfl⟩)
      | ((with_reducible refine fin_i ?_); (conv => whnf); refine ⟨rfl, ?_⟩)
      | refine ⟨of_decide_eq_true rfl, ?_⟩
      | refine ⟨fun _ => of_decide_eq_true rfl, ?_⟩
      | ((with_reducible refine ⟨?_, ?_⟩); (focus (intros; simp_all; done)))
      | ((with_reducible refine ⟨?_, ?_⟩); (focus (intros; omega)))) <;> (try (conv => whnf)))
    all_goals ((with_reducible refine leaf_i ?_); (conv => whnf))
    repeat' ((with_reducible refine And.intro ?_ ?_) <;> (try (conv => whnf)))
    all_goals (try (first | with_reducible rfl | exact True.intro | rfl | exact id | exact fun h => h | exact fun _ => rfl))
  · conv => whnf
    repeat' ((first
      | with_reducible refine ⟨fun h => h, ?_⟩
      | with_reducible refine ⟨pk1, ?_⟩
      | with_reducible refine ⟨pk2, ?_⟩
      | with_reducible refine ⟨pk3, ?_⟩
      | with_reducible refine ⟨pk4, ?_⟩
      | with_reducible refine ⟨pk5, ?_⟩
      | with_reducible refine ⟨pk6, ?_⟩
      | with_reducible refine ⟨trivial, ?_⟩
      | with_reducible refine ⟨fun _ => trivial, ?_⟩
      | with_reducible refine ⟨rfl, ?_⟩
      | with_reducible refine every_i (fun hd => ?_)
      | with_reducible refine fork_t (by assumption) ?_
      | with_reducible refine fork_f (by assumption) ?_
      | refine fork_t rfl ?_
      | refine fork_f rfl ?_
      | with_reducible refine fork_i (fun h => ?_) (fun h => ?_)
      | with_reducible refine both_i ?_ ?_
      | ((with_reducible refine alike_i ?_); exact ⟨rfl, rfl, rfl⟩)
      | ((with_reducible refine fin_i ?_); (conv => whnf); refine ⟨rfl, ?_⟩)
      | refine ⟨of_decide_eq_true rfl, ?_⟩
      | refine ⟨fun _ => of_decide_eq_true rfl, ?_⟩
      | ((with_reducible refine ⟨?_, ?_⟩); (focus (intros; simp_all; done)))
      | ((with_reducible refine ⟨?_, ?_⟩); (focus (intros; omega)))) <;> (try (conv => whnf)))
    all_goals ((with_reducible refine leaf_i ?_); (conv => whnf))
    repeat' ((with_reducible refine And.intro ?_ ?_) <;> (try (conv => whnf)))
    all_goals (try (first | with_reducible rfl | exact True.intro | rfl | exact id | exact fun h => h | exact fun _ => rfl))
  · conv => whnf
    repeat' ((first
      | with_reducible refine ⟨fun h => h, ?_⟩
      | with_reducible refine ⟨pk1, ?_⟩
      | with_reducible refine ⟨pk2, ?_⟩
      | with_reducible refine ⟨pk3, ?_⟩
      | with_reducible refine ⟨pk4, ?_⟩
      | with_reducible refine ⟨pk5, ?_⟩
      | with_reducible refine ⟨pk6, ?_⟩
      | with_reducible refine ⟨trivial, ?_⟩
      | with_reducible refine ⟨fun _ => trivial, ?_⟩
      | with_reducible refine ⟨rfl, ?_⟩
      | with_reducible refine every_i (fun hd => ?_)
      | with_reducible refine fork_t (by assumption) ?_
      | with_reducible refine fork_f (by assumption) ?_
      | refine fork_t rfl ?_
      | refine fork_f rfl ?_
      | with_reducible refine fork_i (fun h => ?_) (fun h => ?_)
      | with_reducible refine both_i ?_ ?_
      | ((with_reducible refine alike_i ?_); exact ⟨rfl, rfl, rfl⟩)
      | ((with_reducible refine fin_i ?_); (conv => whnf); refine ⟨rfl, ?_⟩)
      | refine ⟨of_decide_eq_true rfl, ?_⟩
      | refine ⟨fun _ => of_decide_eq_true rfl, ?_⟩
      | ((with_reducible refine ⟨?_, ?_⟩); (focus (intros; simp_all; done)))
      | ((with_reducible refine ⟨?_, ?_⟩); (focus (intros; omega)))) <;> (try (conv => whnf)))
    all_goals ((with_reducible refine leaf_i ?_); (conv => whnf))
    repeat' ((with_reducible refine And.intro ?_ ?_) <;> (try (conv => whnf)))
    all_goals (try (first | with_reducible rfl | exact True.intro | rfl | exact id | exact fun h => h | exact fun _ => rfl))
  · conv => whnf
    repeat' ((first
      | with_reducible refine ⟨fun h => h, ?_⟩
      | with_reducible refine ⟨pk1, ?_⟩
      | with_reducible refine ⟨pk2, ?_⟩
      | with_reducible refine ⟨pk3, ?_⟩
      | with_reducible refine ⟨pk4, ?_⟩
      | with_reducible refine ⟨pk5, ?_⟩
      | with_reducible refine ⟨pk6, ?_⟩
      | with_reducible refine ⟨trivial, ?_⟩
      | with_reducible refine ⟨fun _ => trivial, ?_⟩
      | with_reducible refine ⟨rfl, ?_⟩
      | with_reducible refine every_i (fun hd => ?_)
      | with_reducible refine fork_t (by assumption) ?_
      | with_reducible refine fork_f (by assumption) ?_
      | refine fork_t rfl ?_
      | refine fork_f rfl ?_
      | with_reducible refine fork_i (fun h => ?_) (fun h => ?_)
      | with_reducible refine both_i ?_ ?_
      | ((with_reducible refine alike_i ?_); exact ⟨rfl, rfl, rfl⟩)
      | ((with_reducible refine fin_i ?_); (conv => whnf); refine ⟨rfl, ?_⟩)
      | refine ⟨of_decide_eq_true rfl, ?_⟩
      | refine ⟨fun _ => of_decide_eq_true rfl, ?_⟩
      | ((with_reducible refine ⟨?_, ?_⟩); (focus (intros; simp_all; done)))
      | ((with_reducible refine ⟨?_, ?_⟩); (focus (intros; omega)))) <;> (try (conv => whnf)))
    all_goals ((with_reducible refine leaf_i ?_); (conv => whnf))
    repeat' ((with_reducible refine And.intro ?_ ?_) <;> (try (conv => whnf)))
    all_goals (try (first | with_reducible rfl | exact True.intro | rfl | exact id | exact fun h => h | exact fun _ => rfl))
  · conv => whnf
    repeat' ((first
      | with_reducible refine ⟨fun h => h, ?_⟩
      | with_reducible refine ⟨pk1, ?_⟩
      | with_reducible refine ⟨pk2, ?_⟩
      | with_reducible refine ⟨pk3, ?_⟩
      | with_reducible refine ⟨pk4, ?_⟩
      | with_reducible refine ⟨pk5, ?_⟩
      | with_reducible refine ⟨pk6, ?_⟩
      | with_reducible refine ⟨trivial, ?_⟩
      | with_reducible refine ⟨fun _ => trivial, ?_⟩
      | with_reducible refine ⟨rfl, ?_⟩
      | with_reducible refine every_i (fun hd => ?_)
      | with_reducible refine fork_t (by assumption) ?_
      | with_reducible refine fork_f (by assumption) ?_
      | refine fork_t rfl ?_
      | refine fork_f rfl ?_
      | with_reducible refine fork_i (fun h => ?_) (fun h => ?_)
      | with_reducible refine both_i ?_ ?_
      | ((with_reducible refine alike_i ?_); exact ⟨rfl, rfl, rfl⟩)
      | ((with_reducible refine fin_i ?_); (conv => whnf); refine ⟨rfl, ?_⟩)
      | refine ⟨of_decide_eq_true rfl, ?_⟩
      | refine ⟨fun _ => of_decide_eq_true rfl, ?_⟩
      | ((with_reducible refine ⟨?_, ?_⟩); (focus (intros; simp_all; done)))
      | ((with_reducible refine ⟨?_, ?_⟩); (focus (intros; omega)))) <;> (try (conv => whnf)))
    all_goals ((with_reducible refine leaf_i ?_); (conv => whnf))
    repeat' ((with_reducible refine And.intro ?_ ?_) <;> (try (conv => whnf)))
    all_goals (try (first | with_reducible rfl | exact True.intro | rfl | exact id | exact fun h => h | exact fun _ => rfl))
  · conv => whnf
    repeat' ((first
      | with_reducible refine ⟨fun h => h, ?_⟩
      | with_reducible refine ⟨pk1, ?_⟩
      | with_reducible refine ⟨pk2, ?_⟩
      | with_reducible refine ⟨pk3, ?_⟩
      | with_reducible refine ⟨pk4, ?_⟩
      | with_reducible refine ⟨pk5, ?_⟩
      | with_reducible refine ⟨pk6, ?_⟩
      | with_reducible refine ⟨trivial, ?_⟩
      | with_reducible refine ⟨fun _ => trivial, ?_⟩
      | with_reducible refine ⟨rfl, ?_⟩
      | with_reducible refine every_i (fun hd => ?_)
      | with_reducible refine fork_t (by assumption) ?_
      | with_reducible refine fork_f (by assumption) ?_
      | refine fork_t rfl ?_
      | refine fork_f rfl ?_
      | with_reducible refine fork_i (fun h => ?_) (fun h => ?_)
      | with_reducible refine both_i ?_ ?_
      | ((with_reducible refine alike_i ?_); exact ⟨rfl, rfl, rfl⟩)
      | ((with_reducible refine fin_i ?_); (conv => whnf); refine ⟨rfl, ?_⟩)
      | refine ⟨of_decide_eq_true rfl, ?_⟩
      | refine ⟨fun _ => of_decide_eq_true rfl, ?_⟩
      | ((with_reducible refine ⟨?_, ?_⟩); (focus (intros; simp_all; done)))
      | ((with_reducible refine ⟨?_, ?_⟩); (focus (intros; omega)))) <;> (try (conv => whnf)))
    all_goals ((with_reducible refine leaf_i ?_); (conv => whnf))
    repeat' ((with_reducible refine And.intro ?_ ?_) <;> (try (conv => whnf)))
    all_goals (try (first | with_reducible rfl | exact True.intro | rfl | exact id | exact fun h => h | exact fun _ => rfl))
  · conv => whnf
    repeat' ((first
      | with_reducible refine ⟨fun h => h, ?_⟩
      | with_reducible refine ⟨pk1, ?_⟩
      | with_reducible refine ⟨pk2, ?_⟩
      | with_reducible refine ⟨pk3, ?_⟩
      | with_reducible refine ⟨pk4, ?_⟩
      | with_reducible refine ⟨pk5, ?_⟩
      | with_reducible refine ⟨pk6, ?_⟩
      | with_reducible refine ⟨trivial, ?_⟩
      | with_reducible refine ⟨fun _ => trivial, ?_⟩
      | with_reducible refine ⟨rfl, ?_⟩
      | with_reducible refine every_i (fun hd => ?_)
      | with_reducible refine fork_t (by assumption) ?_
      | with_reducible refine fork_f (by assumption) ?_
      | refine fork_t rfl ?_
      | refine fork_f rfl ?_
      | with_reducible refine fork_i (fun h => ?_) (fun h => ?_)
      | with_reducible refine both_i ?_ ?_
      | ((with_reducible refine alike_i ?_); exact ⟨rfl, rfl, rfl⟩)
      | ((with_reducible refine fin_i ?_); (conv => whnf); refine ⟨rfl, ?_⟩)
      | refine ⟨of_decide_eq_true rfl, ?_⟩
      | refine ⟨fun _ => of_decide_eq_true rfl, ?_⟩
      | ((with_reducible refine ⟨?_, ?_⟩); (focus (intros; simp_all; done)))
      | ((with_reducible refine ⟨?_, ?_⟩); (focus (intros; omega)))) <;> (try (conv => whnf)))
    all_goals ((with_reducible refine leaf_i ?_); (conv => whnf))
    repeat' ((with_reducible refine And.intro ?_ ?_) <;> (try (conv => whnf)))
    all_goals (try (first | with_reducible rfl | exact True.intro | rfl | exact id | exact fun h => h | exact fun _ => rfl))
  · conv => whnf
    repeat' ((first
      | with_reducible refine ⟨fun h => h, ?_⟩
      | with_reducible refine ⟨pk1, ?_⟩
      | with_reducible refine ⟨pk2, ?_⟩
      | with_reducible refine ⟨pk3, ?_⟩
      | with_reducible refine ⟨pk4, ?_⟩
      | with_reducible refine ⟨pk5, ?_⟩
      | with_reducible refine ⟨pk6, ?_⟩
      | with_reducible refine ⟨trivial, ?_⟩
      | with_reducible refine ⟨fun _ => trivial, ?_⟩
      | with_reducible refine ⟨rfl, ?_⟩
      | with_reducible refine every_i (fun hd => ?_)
      | with_reducible refine fork_t (by assumption) ?_
      | with_reducible refine fork_f (by assumption) ?_
      | refine fork_t rfl ?_
      | refine fork_f rfl ?_
      | with_reducible refine fork_i (fun h => ?_) (fun h => ?_)
      | with_reducible refine both_i ?_ ?_
      | ((with_reducible refine alike_i ?_); exact ⟨rfl, rfl, rfl⟩)
      | ((with_reducible refine fin_i ?_); (conv => whnf); refine ⟨rfl, ?_⟩)
      | refine ⟨of_decide_eq_true rfl, ?_⟩
      | refine ⟨fun _ => of_decide_eq_true rfl, ?_⟩
      | ((with_reducible refine ⟨?_, ?_⟩); (focus (intros; simp_all; done)))
      | ((with_reducible refine ⟨?_, ?_⟩); (focus (intros; omega)))) <;> (try (conv => whnf)))
    all_goals ((with_reducible refine leaf_i ?_); (conv => whnf))
    repeat' ((with_reducible refine And.intro ?_ ?_) <;> (try (conv => whnf)))
    all_goals (try (first | with_reducible rfl | exact True.intro | rfl | exact id | exact fun h => h | exact fun _ => rfl))
  · conv => whnf
    repeat' ((first
      | with_reducible refine ⟨fun h => h, ?_⟩
      | with_reducible refine ⟨pk1, ?_⟩
      | with_reducible refine ⟨pk2, ?_⟩
      | with_reducible refine ⟨pk3, ?_⟩
      | with_reducible refine ⟨pk4, ?_⟩
      | with_reducible refine ⟨pk5, ?_⟩
      | with_reducible refine ⟨pk6, ?_⟩
      | with_reducible refine ⟨trivial, ?_⟩
      | with_reducible refine ⟨fun _ => trivial, ?_⟩
      | with_reducible refine ⟨rfl, ?_⟩
      | with_reducible refine every_i (fun hd => ?_)
      | with_reducible refine fork_t (by assumption) ?_
      | with_reducible refine fork_f (by assumption) ?_
      | refine fork_t rfl ?_
      | refine fork_f rfl ?_
      | with_reducible refine fork_i (fun h => ?_) (fun h => ?_)
      | with_reducible refine both_i ?_ ?_
      | ((with_reducible refine alike_i ?_); exact ⟨rfl, rfl, rfl⟩)
      | ((with_reducible refine fin_i ?_); (conv => whnf); refine ⟨rfl, ?_⟩)
      | refine ⟨of_decide_eq_true rfl, ?_⟩
      | refine ⟨fun _ => of_decide_eq_true rfl, ?_⟩
      | ((with_reducible refine ⟨?_, ?_⟩); (focus (intros; simp_all; done)))
      | ((with_reducible refine ⟨?_, ?_⟩); (focus (intros; omega)))) <;> (try (conv => whnf)))
    all_goals ((with_reducible refine leaf_i ?_); (conv => whnf))
    repeat' ((with_reducible refine And.intro ?_ ?_) <;> (try (conv => whnf)))
    all_goals (try (first | with_reducible rfl | exact True.intro | rfl | exact id | exact fun h => h | exact fun _ => rfl))
  · conv => whnf
    repeat' ((first
      | with_reducible refine ⟨fun h => h, ?_⟩
      | with_reducible refine ⟨pk1, ?_⟩
      | with_reducible refine ⟨pk2, ?_⟩
      | with_reducible refine ⟨pk3, ?_⟩
      | with_reducible refine ⟨pk4, ?_⟩
      | with_reducible refine ⟨pk5, ?_⟩
      | with_reducible refine ⟨pk6, ?_⟩
      | with_reducible refine ⟨trivial, ?_⟩
      | with_reducible refine ⟨fun _ => trivial, ?_⟩
      | with_reducible refine ⟨rfl, ?_⟩
      | with_reducible refine every_i (fun hd => ?_)
      | with_reducible refine fork_t (by assumption) ?_
      | with_reducible refine fork_f (by assumption) ?_
      | refine fork_t rfl ?_
      | refine fork_f rfl ?_
      | with_reducible refine fork_i (fun h => ?_) (fun h => ?_)
      | with_reducible refine both_i ?_ ?_
      | ((with_reducible refine alike_i ?_); exact ⟨rfl, rfl, rfl⟩)
      | ((with_reducible refine fin_i ?_); (conv => whnf); refine ⟨rfl, ?_⟩)
      | refine ⟨of_decide_eq_true rfl, ?_⟩
      | refine ⟨fun _ => of_decide_eq_true rfl, ?_⟩
      | ((with_reducible refine ⟨?_, ?_⟩); (focus (intros; simp_all; done)))
      | ((with_reducible refine ⟨?_, ?_⟩); (focus (intros; omega)))) <;> (try (conv => whnf)))
    all_goals ((with_reducible refine leaf_i ?_); (conv => whnf))
    repeat' ((with_reducible refine And.intro ?_ ?_) <;> (try (conv => whnf)))
    all_goals (try (first | with_reducible rfl | exact True.intro | rfl | exact id | exact fun h => h | exact fun _ => rfl))
  · conv => whnf
    repeat' ((first
      | with_reducible refine ⟨fun h => h, ?_⟩
      | with_reducible refine ⟨pk1, ?_⟩
      | with_reducible refine ⟨pk2, ?_⟩
      | with_reducible refine ⟨pk3, ?_⟩
      | with_reducible refine ⟨pk4, ?_⟩
      | with_reducible refine ⟨pk5, ?_⟩
      | with_reducible refine ⟨pk6, ?_⟩
      | with_reducible refine ⟨trivial, ?_⟩
      | with_reducible refine ⟨fun _ => trivial, ?_⟩
      | with_reducible refine ⟨rfl, ?_⟩
      | with_reducible refine every_i (fun hd => ?_)
      | with_reducible refine fork_t (by assumption) ?_
      | with_reducible refine fork_f (by assumption) ?_
      | refine fork_t rfl ?_
      | refine fork_f rfl ?_
      | with_reducible refine fork_i (fun h => ?_) (fun h => ?_)
      | with_reducible refine both_i ?_ ?_
      | ((with_reducible refine alike_i ?_); exact ⟨rfl, rfl, rfl⟩)
      | ((with_reducible refine fin_i ?_); (conv => whnf); refine ⟨rfl, ?_⟩)
      | refine ⟨of_decide_eq_true rfl, ?_⟩
      | refine ⟨fun _ => of_decide_eq_true rfl, ?_⟩
      | ((with_reducible refine ⟨?_, ?_⟩); (focus (intros; simp_all; done)))
      | ((with_reducible refine ⟨?_, ?_⟩); (focus (intros; omega)))) <;> (try (conv => whnf)))
    all_goals ((with_reducible refine leaf_i ?_); (conv => whnf))
    repeat' ((with_reducible refine And.intro ?_ ?_) <;> (try (conv => whnf)))
    all_goals (try (first | with_reducible rfl | exact True.intro | rfl | exact id | exact fun h => h | exact fun _ => rfl))
end Go.Proofs.Ytbgcgokikekmoaa

/- Layer 10: closures, and ContainsFunc of each. Printed by wip/tool/gen10c.py. -/
namespace Go.Proofs.Ytbgcgokikekmoaa
set_option linter.unusedVariables false
set_option linter.unusedSimpArgs false
set_option maxRecDepth 100000
open Go Go.RowKit Go.Proofs.Ytbgcgokikekmoaa.Eng

def shNil : Sh Unit := ⟨fun | .nil => some () | _ => none, fun _ => .nil, fun v x h c vs hs => by
  split at h
  · exact hs
  · cases h⟩
def shCons {α β : Type} (A : Sh α) (B : Sh β) : Sh (α × β) := ⟨fun | .cons a b => (match A.get a, B.get b with | some x, some y => some (x, y) | _, _ => none) | _ => none, fun p => .cons (A.put p.1) (B.put p.2), fun v x h c vs hs => by
  split at h
  · rename_i a b
    split at h
    · rename_i x y hx hy
      injection h with h; subst h
      obtain ⟨u, r, e, h1, h2⟩ := hs
      exact ⟨u, r, e, A.ok _ _ hx c _ h1, B.ok _ _ hy c _ h2⟩
    · cases h
  · cases h⟩
/-- A function with what it has captured. -/
def shFn {α : Type} (f : FuncId) (A : Sh α) : Sh α := ⟨fun | .fn g l => bif Nat.beq f g then A.get l else none | _ => none, fun x => .fn f (A.put x), fun v x h c vs hs => by
  split at h
  · rename_i g l
    cases hb : Nat.beq f g with
    | false => rw [hb] at h; cases h
    | true =>
      rw [hb] at h
      have := Nat.eq_of_beq_eq_true hb
      subst this
      obtain ⟨cs, e, h2⟩ := hs
      exact ⟨cs, e, A.ok _ _ h c _ h2⟩
  · cases h⟩

/-! ### check.ports$1 -/
def k_ports1 : Sig := .arg shI fun i => .arg (shRp (shR tN)) fun gg => .done { pre := True, res := B (wrongB gg i) }
set_option maxHeartbeats 4000000 in
theorem c_ports1 : FnOk Try.prog 40 k_ports1.con := by
  refine fnOkS mixed tys_ok (cs := []) trivial Try.func40 rfl (by kernel_rfl) Try.ntmps40 _ (h := ?_)
  intro i gg
  refine ⟨rfl, fun hp => ?_⟩
  conv => whnf
  repeat' ((first
    | with_reducible refine ⟨fun h => h, ?_⟩
    | with_reducible refine ⟨pk1, ?_⟩
    | with_reducible refine ⟨pk2, ?_⟩
    | with_reducible refine ⟨pk3, ?_⟩
    | with_reducible refine ⟨pk4, ?_⟩
    | with_reducible refine ⟨pk5, ?_⟩
    | with_reducible refine ⟨pk6, ?_⟩
    | with_reducible refine ⟨trivial, ?_⟩
    | with_reducible refine ⟨fun _ => trivial, ?_⟩
    | with_reducible refine ⟨rfl, ?_⟩
    | with_reducible refine every_i (fun hd => ?_)
    | with_reducible refine fork_t (by assumption) ?_
    | with_reducible refine fork_f (by assumption) ?_
    | refine fork_t rfl ?_
    | refine fork_f rfl ?_
    | with_reducible refine fork_i (fun h => ?_) (fun h => ?_)
    | with_reducible refine both_i ?_ ?_
    | ((with_reducible refine alike_i ?_); exact ⟨rfl, rfl, rfl⟩)
    | ((with_reducible refine fin_i ?_); (conv => whnf); refine ⟨rfl, ?_⟩)
    | refine ⟨of_decide_eq_true rfl, ?_⟩
    | refine ⟨fun _ => of_decide_eq_true rfl, ?_⟩
    | ((with_reducible refine ⟨?_, ?_⟩); (focus (intros; simp_all; done)))
    | ((with_reducible refine ⟨?_, ?_⟩); (focus (intros; omega)))) <;> (try (conv => whnf)))
  all_goals ((with_reducible refine leaf_i ?_); (conv => whnf))
  repeat' ((with_reducible refine And.intro ?_ ?_) <;> (try (conv => whnf)))
  all_goals (try (first | with_reducible rfl | exact True.intro | rfl | exact id | exact fun h => h | exact fun _ => rfl))
def k_xports1 : Sig := .arg (shR tI) fun l => .arg (shFn 40 (shCons (shRp (shR tN)) (shNil))) fun s => .done { pre := l.length < 4611686018427387904 ∧ ∀ x ∈ l, True, res := I (idxP ((wrongB s.1)) 0 l) }
set_option maxHeartbeats 4000000 in
theorem c_xports1 : FnOk Try.prog 52 k_xports1.con := by
  refine fnOkS mixed tys_ok (cs := [(40, k_ports1.con)]) ⟨c_ports1, trivial⟩ Try.func52 rfl (by kernel_rfl) Try.ntmps52 _ (h := ?_)
  intro g s
  refine ⟨rfl, fun hp => ?_⟩
  obtain ⟨hp1, hp2⟩ := hp
  conv => whnf
  repeat' ((first
    | with_reducible refine ⟨fun h => h, ?_⟩
    | with_reducible refine ⟨pk1, ?_⟩
    | with_reducible refine ⟨pk2, ?_⟩
    | with_reducible refine ⟨pk3, ?_⟩
    | with_reducible refine ⟨pk4, ?_⟩
    | with_reducible refine ⟨pk5, ?_⟩
    | with_reducible refine ⟨pk6, ?_⟩
    | with_reducible refine ⟨trivial, ?_⟩
    | with_reducible refine ⟨fun _ => trivial, ?_⟩
    | with_reducible refine ⟨rfl, ?_⟩
    | with_reducible refine every_i (fun hd => ?_)
    | with_reducible refine fork_t (by assumption) ?_
    | with_reducible refine fork_f (by assumption) ?_
    | refine fork_t rfl ?_
    | refine fork_f rfl ?_
    | with_reducible refine fork_i (fun h => ?_) (fun h => ?_)
    | with_reducible refine both_i ?_ ?_
    | ((with_reducible refine alike_i ?_); exact ⟨rfl, rfl, rfl⟩)
    | ((with_reducible refine fin_i ?_); (conv => whnf); refine ⟨rfl, ?_⟩)
    | refine ⟨of_decide_eq_true rfl, ?_⟩
    | refine ⟨fun _ => of_decide_eq_true rfl, ?_⟩
    | ((with_reducible refine ⟨?_, ?_⟩); (focus (intros; simp_all; done)))
    | ((with_reducible refine ⟨?_, ?_⟩); (focus (intros; omega)))) <;> (try (conv => whnf)))
  refine looped (σ := Nat) (fun j => [(8, I j)]) (fun _ => []) (fun j => j ≤ g.length ∧ idxP ((wrongB s.1)) j (g.drop j) = idxP ((wrongB s.1)) 0 g) (fun j => g.length - j) 0 ⟨Nat.zero_le _, rfl⟩ ?_ ?_
  · conv => whnf
    refine ⟨rfl, leaf_i ?_⟩
    repeat' ((with_reducible refine And.intro ?_ ?_) <;> (try (conv => whnf)))
    all_goals (try (first | with_reducible rfl | exact True.intro | rfl | exact id | exact fun h => h | exact fun _ => rfl))
  · rintro j ⟨hj, hl⟩
    dsimp only at hj hl ⊢
    have hpre : decide ((j : Int) < (g.length : Int)) = true → True := fun h => hp2 _ (getE_mem g (lt_t h))
    conv => whnf
    repeat' ((first
      | with_reducible refine ⟨fun h => h, ?_⟩
      | with_reducible refine ⟨pk1, ?_⟩
      | with_reducible refine ⟨pk2, ?_⟩
      | with_reducible refine ⟨pk3, ?_⟩
      | with_reducible refine ⟨pk4, ?_⟩
      | with_reducible refine ⟨pk5, ?_⟩
      | with_reducible refine ⟨pk6, ?_⟩
      | with_reducible refine ⟨trivial, ?_⟩
      | with_reducible refine ⟨fun _ => trivial, ?_⟩
      | with_reducible refine ⟨rfl, ?_⟩
      | with_reducible refine every_i (fun hd => ?_)
      | with_reducible refine fork_t (by assumption) ?_
      | with_reducible refine fork_f (by assumption) ?_
      | refine fork_t rfl ?_
      | refine fork_f rfl ?_
      | with_reducible refine fork_i (fun h => ?_) (fun h => ?_)
      | with_reducible refine both_i ?_ ?_
      | ((with_reducible refine alike_i ?_); exact ⟨rfl, rfl, rfl⟩)
      | ((with_reducible refine fin_i ?_); (conv => whnf); refine ⟨rfl, ?_⟩)
      | refine ⟨hpre (by assumption), ?_⟩
      | refine ⟨of_decide_eq_true rfl, ?_⟩
      | refine ⟨fun _ => of_decide_eq_true rfl, ?_⟩
      | ((with_reducible refine ⟨?_, ?_⟩); (focus (intros; simp_all; done)))
      | ((with_reducible refine ⟨?_, ?_⟩); (focus (intros; omega)))) <;> (try (conv => whnf)))
    · rename_i hj'
      have hj' := lt_t hj'
      have h : (wrongB s.1) (getE tI g j).1 = true := h
      rw [drop_get _ hj', idxP, if_pos h] at hl
      all_goals ((with_reducible refine leaf_i ?_); (conv => whnf))
      repeat' ((with_reducible refine And.intro ?_ ?_) <;> (try (conv => whnf)))
      all_goals (try (first | with_reducible rfl | exact True.intro | rfl | exact id | exact fun h => h | exact fun _ => rfl))
      all_goals first | exact hl | rfl
    · rename_i hj'
      have hj' := lt_t hj'
      have h' : ¬ (wrongB s.1) (getE tI g j).1 = true := fun hh => Bool.noConfusion (h.symm.trans hh)
      rw [drop_get _ hj', idxP, if_neg h'] at hl
      refine next_i (j + 1) ⟨hj', hl⟩ (by omega) rfl rfl ?_
      conv => whnf
      refine ⟨rfl, leaf_i ?_⟩
      repeat' ((with_reducible refine And.intro ?_ ?_) <;> (try (conv => whnf)))
      all_goals (try (first | with_reducible rfl | exact True.intro | rfl | exact id | exact fun h => h | exact fun _ => rfl))
      all_goals first | exact wrapS (Nat.lt_trans hj' hp1) | rfl
    · have hj' := lt_f h
      rw [List.drop_eq_nil_of_le hj', idxP] at hl
      all_goals ((with_reducible refine leaf_i ?_); (conv => whnf))
      repeat' ((with_reducible refine And.intro ?_ ?_) <;> (try (conv => whnf)))
      all_goals (try (first | with_reducible rfl | exact True.intro | rfl | exact id | exact fun h => h | exact fun _ => rfl))
      all_goals first | exact hl | rfl
def k_hports1 : Sig := .arg (shR tI) fun l => .arg (shFn 40 (shCons (shRp (shR tN)) (shNil))) fun s => .done { pre := l.length < 4611686018427387904 ∧ ∀ x ∈ l, True, res := B (hasP ((wrongB s.1)) l) }
set_option maxHeartbeats 4000000 in
theorem c_hports1 : FnOk Try.prog 42 k_hports1.con := by
  refine fnOkS mixed tys_ok (cs := [(52, k_xports1.con)]) ⟨c_xports1, trivial⟩ Try.func42 rfl (by kernel_rfl) Try.ntmps42 _ (h := ?_)
  intro g s
  refine ⟨rfl, fun hp => ?_⟩
  conv => whnf
  repeat' ((first
    | with_reducible refine ⟨fun h => h, ?_⟩
    | with_reducible refine ⟨pk1, ?_⟩
    | with_reducible refine ⟨pk2, ?_⟩
    | with_reducible refine ⟨pk3, ?_⟩
    | with_reducible refine ⟨pk4, ?_⟩
    | with_reducible refine ⟨pk5, ?_⟩
    | with_reducible refine ⟨pk6, ?_⟩
    | with_reducible refine ⟨trivial, ?_⟩
    | with_reducible refine ⟨fun _ => trivial, ?_⟩
    | with_reducible refine ⟨rfl, ?_⟩
    | with_reducible refine every_i (fun hd => ?_)
    | with_reducible refine fork_t (by assumption) ?_
    | with_reducible refine fork_f (by assumption) ?_
    | refine fork_t rfl ?_
    | refine fork_f rfl ?_
    | with_reducible refine fork_i (fun h => ?_) (fun h => ?_)
    | with_reducible refine both_i ?_ ?_
    | ((with_reducible refine alike_i ?_); exact ⟨rfl, rfl, rfl⟩)
    | ((with_reducible refine fin_i ?_); (conv => whnf); refine ⟨rfl, ?_⟩)
    | refine ⟨hp, ?_⟩
    | refine ⟨of_decide_eq_true rfl, ?_⟩
    | refine ⟨fun _ => of_decide_eq_true rfl, ?_⟩
    | ((with_reducible refine ⟨?_, ?_⟩); (focus (intros; simp_all; done)))
    | ((with_reducible refine ⟨?_, ?_⟩); (focus (intros; omega)))) <;> (try (conv => whnf)))
  all_goals ((with_reducible refine leaf_i ?_); (conv => whnf))
  repeat' ((with_reducible refine And.intro ?_ ?_) <;> (try (conv => whnf)))
  all_goals (try (first | with_reducible rfl | exact True.intro | rfl | exact id | exact fun h => h | exact fun _ => rfl))
  all_goals first | rfl | trace_state

/-! ### check.depth$1 -/
def k_depth1 : Sig := .arg shI fun i => .arg (shRp (shR tN)) fun gg => .arg (shRp shI) fun fed => .done { pre := 0 ≤ i ∧ i < (gg.length : Int), res := B (otherB gg fed i) }
set_option maxHeartbeats 4000000 in
theorem c_depth1 : FnOk Try.prog 43 k_depth1.con := by
  refine fnOkS mixed tys_ok (cs := []) trivial Try.func43 rfl (by kernel_rfl) Try.ntmps43 _ (h := ?_)
  intro i gg fed
  refine ⟨rfl, fun hp => ?_⟩
  conv => whnf
  repeat' ((first
    | with_reducible refine ⟨fun h => h, ?_⟩
    | with_reducible refine ⟨pk1, ?_⟩
    | with_reducible refine ⟨pk2, ?_⟩
    | with_reducible refine ⟨pk3, ?_⟩
    | with_reducible refine ⟨pk4, ?_⟩
    | with_reducible refine ⟨pk5, ?_⟩
    | with_reducible refine ⟨pk6, ?_⟩
    | with_reducible refine ⟨trivial, ?_⟩
    | with_reducible refine ⟨fun _ => trivial, ?_⟩
    | with_reducible refine ⟨rfl, ?_⟩
    | with_reducible refine every_i (fun hd => ?_)
    | with_reducible refine fork_t (by assumption) ?_
    | with_reducible refine fork_f (by assumption) ?_
    | refine fork_t rfl ?_
    | refine fork_f rfl ?_
    | with_reducible refine fork_i (fun h => ?_) (fun h => ?_)
    | with_reducible refine both_i ?_ ?_
    | ((with_reducible refine alike_i ?_); exact ⟨rfl, rfl, rfl⟩)
    | ((with_reducible refine fin_i ?_); (conv => whnf); refine ⟨rfl, ?_⟩)
    | refine ⟨hp, ?_⟩
    | refine ⟨of_decide_eq_true rfl, ?_⟩
    | refine ⟨fun _ => of_decide_eq_true rfl, ?_⟩
    | ((with_reducible refine ⟨?_, ?_⟩); (focus (intros; simp_all; done)))
    | ((with_reducible refine ⟨?_, ?_⟩); (focus (intros; omega)))) <;> (try (conv => whnf)))
  all_goals ((with_reducible refine leaf_i ?_); (conv => whnf))
  repeat' ((with_reducible refine And.intro ?_ ?_) <;> (try (conv => whnf)))
  all_goals (try (first | with_reducible rfl | exact True.intro | rfl | exact id | exact fun h => h | exact fun _ => rfl))
def k_xdepth1 : Sig := .arg (shR tI) fun l => .arg (shFn 43 (shCons (shRp (shR tN)) (shCons (shRp shI) (shNil)))) fun s => .done { pre := l.length < 4611686018427387904 ∧ ∀ x ∈ l, 0 ≤ x.1 ∧ x.1 < (s.1.length : Int), res := I (idxP ((otherB s.1 s.2.1)) 0 l) }
set_option maxHeartbeats 4000000 in
theorem c_xdepth1 : FnOk Try.prog 52 k_xdepth1.con := by
  refine fnOkS mixed tys_ok (cs := [(43, k_depth1.con)]) ⟨c_depth1, trivial⟩ Try.func52 rfl (by kernel_rfl) Try.ntmps52 _ (h := ?_)
  intro g s
  refine ⟨rfl, fun hp => ?_⟩
  obtain ⟨hp1, hp2⟩ := hp
  conv => whnf
  repeat' ((first
    | with_reducible refine ⟨fun h => h, ?_⟩
    | with_reducible refine ⟨pk1, ?_⟩
    | with_reducible refine ⟨pk2, ?_⟩
    | with_reducible refine ⟨pk3, ?_⟩
    | with_reducible refine ⟨pk4, ?_⟩
    | with_reducible refine ⟨pk5, ?_⟩
    | with_reducible refine ⟨pk6, ?_⟩
    | with_reducible refine ⟨trivial, ?_⟩
    | with_reducible refine ⟨fun _ => trivial, ?_⟩
    | with_reducible refine ⟨rfl, ?_⟩
    | with_reducible refine every_i (fun hd => ?_)
    | with_reducible refine fork_t (by assumption) ?_
    | with_reducible refine fork_f (by assumption) ?_
    | refine fork_t rfl ?_
    | refine fork_f rfl ?_
    | with_reducible refine fork_i (fun h => ?_) (fun h => ?_)
    | with_reducible refine both_i ?_ ?_
    | ((with_reducible refine alike_i ?_); exact ⟨rfl, rfl, rfl⟩)
    | ((with_reducible refine fin_i ?_); (conv => whnf); refine ⟨rfl, ?_⟩)
    | refine ⟨of_decide_eq_true rfl, ?_⟩
    | refine ⟨fun _ => of_decide_eq_true rfl, ?_⟩
    | ((with_reducible refine ⟨?_, ?_⟩); (focus (intros; simp_all; done)))
    | ((with_reducible refine ⟨?_, ?_⟩); (focus (intros; omega)))) <;> (try (conv => whnf)))
  refine looped (σ := Nat) (fun j => [(8, I j)]) (fun _ => []) (fun j => j ≤ g.length ∧ idxP ((otherB s.1 s.2.1)) j (g.drop j) = idxP ((otherB s.1 s.2.1)) 0 g) (fun j => g.length - j) 0 ⟨Nat.zero_le _, rfl⟩ ?_ ?_
  · conv => whnf
    refine ⟨rfl, leaf_i ?_⟩
    repeat' ((with_reducible refine And.intro ?_ ?_) <;> (try (conv => whnf)))
    all_goals (try (first | with_reducible rfl | exact True.intro | rfl | exact id | exact fun h => h | exact fun _ => rfl))
  · rintro j ⟨hj, hl⟩
    dsimp only at hj hl ⊢
    have hpre : decide ((j : Int) < (g.length : Int)) = true → 0 ≤ (getE tI g j).1 ∧ (getE tI g j).1 < (s.1.length : Int) := fun h => hp2 _ (getE_mem g (lt_t h))
    conv => whnf
    repeat' ((first
      | with_reducible refine ⟨fun h => h, ?_⟩
      | with_reducible refine ⟨pk1, ?_⟩
      | with_reducible refine ⟨pk2, ?_⟩
      | with_reducible refine ⟨pk3, ?_⟩
      | with_reducible refine ⟨pk4, ?_⟩
      | with_reducible refine ⟨pk5, ?_⟩
      | with_reducible refine ⟨pk6, ?_⟩
      | with_reducible refine ⟨trivial, ?_⟩
      | with_reducible refine ⟨fun _ => trivial, ?_⟩
      | with_reducible refine ⟨rfl, ?_⟩
      | with_reducible refine every_i (fun hd => ?_)
      | with_reducible refine fork_t (by assumption) ?_
      | with_reducible refine fork_f (by assumption) ?_
      | refine fork_t rfl ?_
      | refine fork_f rfl ?_
      | with_reducible refine fork_i (fun h => ?_) (fun h => ?_)
      | with_reducible refine both_i ?_ ?_
      | ((with_reducible refine alike_i ?_); exact ⟨rfl, rfl, rfl⟩)
      | ((with_reducible refine fin_i ?_); (conv => whnf); refine ⟨rfl, ?_⟩)
      | refine ⟨hpre (by assumption), ?_⟩
      | refine ⟨of_decide_eq_true rfl, ?_⟩
      | refine ⟨fun _ => of_decide_eq_true rfl, ?_⟩
      | ((with_reducible refine ⟨?_, ?_⟩); (focus (intros; simp_all; done)))
      | ((with_reducible refine ⟨?_, ?_⟩); (focus (intros; omega)))) <;> (try (conv => whnf)))
    · rename_i hj'
      have hj' := lt_t hj'
      have h : (otherB s.1 s.2.1) (getE tI g j).1 = true := h
      rw [drop_get _ hj', idxP, if_pos h] at hl
      all_goals ((with_reducible refine leaf_i ?_); (conv => whnf))
      repeat' ((with_reducible refine And.intro ?_ ?_) <;> (try (conv => whnf)))
      all_goals (try (first | with_reducible rfl | exact True.intro | rfl | exact id | exact fun h => h | exact fun _ => rfl))
      all_goals first | exact hl | rfl
    · rename_i hj'
      have hj' := lt_t hj'
      have h' : ¬ (otherB s.1 s.2.1) (getE tI g j).1 = true := fun hh => Bool.noConfusion (h.symm.trans hh)
      rw [drop_get _ hj', idxP, if_neg h'] at hl
      refine next_i (j + 1) ⟨hj', hl⟩ (by omega) rfl rfl ?_
      conv => whnf
      refine ⟨rfl, leaf_i ?_⟩
      repeat' ((with_reducible refine And.intro ?_ ?_) <;> (try (conv => whnf)))
      all_goals (try (first | with_reducible rfl | exact True.intro | rfl | exact id | exact fun h => h | exact fun _ => rfl))
      all_goals first | exact wrapS (Nat.lt_trans hj' hp1) | rfl
    · have hj' := lt_f h
      rw [List.drop_eq_nil_of_le hj', idxP] at hl
      all_goals ((with_reducible refine leaf_i ?_); (conv => whnf))
      repeat' ((with_reducible refine And.intro ?_ ?_) <;> (try (conv => whnf)))
      all_goals (try (first | with_reducible rfl | exact True.intro | rfl | exact id | exact fun h => h | exact fun _ => rfl))
      all_goals first | exact hl | rfl
def k_hdepth1 : Sig := .arg (shR tI) fun l => .arg (shFn 43 (shCons (shRp (shR tN)) (shCons (shRp shI) (shNil)))) fun s => .done { pre := l.length < 4611686018427387904 ∧ ∀ x ∈ l, 0 ≤ x.1 ∧ x.1 < (s.1.length : Int), res := B (hasP ((otherB s.1 s.2.1)) l) }
set_option maxHeartbeats 4000000 in
theorem c_hdepth1 : FnOk Try.prog 42 k_hdepth1.con := by
  refine fnOkS mixed tys_ok (cs := [(52, k_xdepth1.con)]) ⟨c_xdepth1, trivial⟩ Try.func42 rfl (by kernel_rfl) Try.ntmps42 _ (h := ?_)
  intro g s
  refine ⟨rfl, fun hp => ?_⟩
  conv => whnf
  repeat' ((first
    | with_reducible refine ⟨fun h => h, ?_⟩
    | with_reducible refine ⟨pk1, ?_⟩
    | with_reducible refine ⟨pk2, ?_⟩
    | with_reducible refine ⟨pk3, ?_⟩
    | with_reducible refine ⟨pk4, ?_⟩
    | with_reducible refine ⟨pk5, ?_⟩
    | with_reducible refine ⟨pk6, ?_⟩
    | with_reducible refine ⟨trivial, ?_⟩
    | with_reducible refine ⟨fun _ => trivial, ?_⟩
    | with_reducible refine ⟨rfl, ?_⟩
    | with_reducible refine every_i (fun hd => ?_)
    | with_reducible refine fork_t (by assumption) ?_
    | with_reducible refine fork_f (by assumption) ?_
    | refine fork_t rfl ?_
    | refine fork_f rfl ?_
    | with_reducible refine fork_i (fun h => ?_) (fun h => ?_)
    | with_reducible refine both_i ?_ ?_
    | ((with_reducible refine alike_i ?_); exact ⟨rfl, rfl, rfl⟩)
    | ((with_reducible refine fin_i ?_); (conv => whnf); refine ⟨rfl, ?_⟩)
    | refine ⟨hp, ?_⟩
    | refine ⟨of_decide_eq_true rfl, ?_⟩
    | refine ⟨fun _ => of_decide_eq_true rfl, ?_⟩
    | ((with_reducible refine ⟨?_, ?_⟩); (focus (intros; simp_all; done)))
    | ((with_reducible refine ⟨?_, ?_⟩); (focus (intros; omega)))) <;> (try (conv => whnf)))
  all_goals ((with_reducible refine leaf_i ?_); (conv => whnf))
  repeat' ((with_reducible refine And.intro ?_ ?_) <;> (try (conv => whnf)))
  all_goals (try (first | with_reducible rfl | exact True.intro | rfl | exact id | exact fun h => h | exact fun _ => rfl))
  all_goals first | rfl | trace_state

/-! ### check.order$1 -/
def k_order1 : Sig := .arg shI fun i => .arg (shRp (shR tB)) fun th => .done { pre := 0 ≤ i ∧ i < (th.length : Int), res := B (missB th i) }
set_option maxHeartbeats 4000000 in
theorem c_order1 : FnOk Try.prog 51 k_order1.con := by
  refine fnOkS mixed tys_ok (cs := []) trivial Try.func51 rfl (by kernel_rfl) Try.ntmps51 _ (h := ?_)
  intro i th
  refine ⟨rfl, fun hp => ?_⟩
  conv => whnf
  repeat' ((first
    | with_reducible refine ⟨fun h => h, ?_⟩
    | with_reducible refine ⟨pk1, ?_⟩
    | with_reducible refine ⟨pk2, ?_⟩
    | with_reducible refine ⟨pk3, ?_⟩
    | with_reducible refine ⟨pk4, ?_⟩
    | with_reducible refine ⟨pk5, ?_⟩
    | with_reducible refine ⟨pk6, ?_⟩
    | with_reducible refine ⟨trivial, ?_⟩
    | with_reducible refine ⟨fun _ => trivial, ?_⟩
    | with_reducible refine ⟨rfl, ?_⟩
    | with_reducible refine every_i (fun hd => ?_)
    | with_reducible refine fork_t (by assumption) ?_
    | with_reducible refine fork_f (by assumption) ?_
    | refine fork_t rfl ?_
    | refine fork_f rfl ?_
    | with_reducible refine fork_i (fun h => ?_) (fun h => ?_)
    | with_reducible refine both_i ?_ ?_
    | ((with_reducible refine alike_i ?_); exact ⟨rfl, rfl, rfl⟩)
    | ((with_reducible refine fin_i ?_); (conv => whnf); refine ⟨rfl, ?_⟩)
    | refine ⟨hp, ?_⟩
    | refine ⟨of_decide_eq_true rfl, ?_⟩
    | refine ⟨fun _ => of_decide_eq_true rfl, ?_⟩
    | ((with_reducible refine ⟨?_, ?_⟩); (focus (intros; simp_all; done)))
    | ((with_reducible refine ⟨?_, ?_⟩); (focus (intros; omega)))) <;> (try (conv => whnf)))
  all_goals ((with_reducible refine leaf_i ?_); (conv => whnf))
  repeat' ((with_reducible refine And.intro ?_ ?_) <;> (try (conv => whnf)))
  all_goals (try (first | with_reducible rfl | exact True.intro | rfl | exact id | exact fun h => h | exact fun _ => rfl))
def k_xorder1 : Sig := .arg (shR tI) fun l => .arg (shFn 51 (shCons (shRp (shR tB)) (shNil))) fun s => .done { pre := l.length < 4611686018427387904 ∧ ∀ x ∈ l, 0 ≤ x.1 ∧ x.1 < (s.1.length : Int), res := I (idxP ((missB s.1)) 0 l) }
set_option maxHeartbeats 4000000 in
theorem c_xorder1 : FnOk Try.prog 52 k_xorder1.con := by
  refine fnOkS mixed tys_ok (cs := [(51, k_order1.con)]) ⟨c_order1, trivial⟩ Try.func52 rfl (by kernel_rfl) Try.ntmps52 _ (h := ?_)
  intro g s
  refine ⟨rfl, fun hp => ?_⟩
  obtain ⟨hp1, hp2⟩ := hp
  conv => whnf
  repeat' ((first
    | with_reducible refine ⟨fun h => h, ?_⟩
    | with_reducible refine ⟨pk1, ?_⟩
    | with_reducible refine ⟨pk2, ?_⟩
    | with_reducible refine ⟨pk3, ?_⟩
    | with_reducible refine ⟨pk4, ?_⟩
    | with_reducible refine ⟨pk5, ?_⟩
    | with_reducible refine ⟨pk6, ?_⟩
    | with_reducible refine ⟨trivial, ?_⟩
    | with_reducible refine ⟨fun _ => trivial, ?_⟩
    | with_reducible refine ⟨rfl, ?_⟩
    | with_reducible refine every_i (fun hd => ?_)
    | with_reducible refine fork_t (by assumption) ?_
    | with_reducible refine fork_f (by assumption) ?_
    | refine fork_t rfl ?_
    | refine fork_f rfl ?_
    | with_reducible refine fork_i (fun h => ?_) (fun h => ?_)
    | with_reducible refine both_i ?_ ?_
    | ((with_reducible refine alike_i ?_); exact ⟨rfl, rfl, rfl⟩)
    | ((with_reducible refine fin_i ?_); (conv => whnf); refine ⟨rfl, ?_⟩)
    | refine ⟨of_decide_eq_true rfl, ?_⟩
    | refine ⟨fun _ => of_decide_eq_true rfl, ?_⟩
    | ((with_reducible refine ⟨?_, ?_⟩); (focus (intros; simp_all; done)))
    | ((with_reducible refine ⟨?_, ?_⟩); (focus (intros; omega)))) <;> (try (conv => whnf)))
  refine looped (σ := Nat) (fun j => [(8, I j)]) (fun _ => []) (fun j => j ≤ g.length ∧ idxP ((missB s.1)) j (g.drop j) = idxP ((missB s.1)) 0 g) (fun j => g.length - j) 0 ⟨Nat.zero_le _, rfl⟩ ?_ ?_
  · conv => whnf
    refine ⟨rfl, leaf_i ?_⟩
    repeat' ((with_reducible refine And.intro ?_ ?_) <;> (try (conv => whnf)))
    all_goals (try (first | with_reducible rfl | exact True.intro | rfl | exact id | exact fun h => h | exact fun _ => rfl))
  · rintro j ⟨hj, hl⟩
    dsimp only at hj hl ⊢
    have hpre : decide ((j : Int) < (g.length : Int)) = true → 0 ≤ (getE tI g j).1 ∧ (getE tI g j).1 < (s.1.length : Int) := fun h => hp2 _ (getE_mem g (lt_t h))
    conv => whnf
    repeat' ((first
      | with_reducible refine ⟨fun h => h, ?_⟩
      | with_reducible refine ⟨pk1, ?_⟩
      | with_reducible refine ⟨pk2, ?_⟩
      | with_reducible refine ⟨pk3, ?_⟩
      | with_reducible refine ⟨pk4, ?_⟩
      | with_reducible refine ⟨pk5, ?_⟩
      | with_reducible refine ⟨pk6, ?_⟩
      | with_reducible refine ⟨trivial, ?_⟩
      | with_reducible refine ⟨fun _ => trivial, ?_⟩
      | with_reducible refine ⟨rfl, ?_⟩
      | with_reducible refine every_i (fun hd => ?_)
      | with_reducible refine fork_t (by assumption) ?_
      | with_reducible refine fork_f (by assumption) ?_
      | refine fork_t rfl ?_
      | refine fork_f rfl ?_
      | with_reducible refine fork_i (fun h => ?_) (fun h => ?_)
      | with_reducible refine both_i ?_ ?_
      | ((with_reducible refine alike_i ?_); exact ⟨rfl, rfl, rfl⟩)
      | ((with_reducible refine fin_i ?_); (conv => whnf); refine ⟨rfl, ?_⟩)
      | refine ⟨hpre (by assumption), ?_⟩
      | refine ⟨of_decide_eq_true rfl, ?_⟩
      | refine ⟨fun _ => of_decide_eq_true rfl, ?_⟩
      | ((with_reducible refine ⟨?_, ?_⟩); (focus (intros; simp_all; done)))
      | ((with_reducible refine ⟨?_, ?_⟩); (focus (intros; omega)))) <;> (try (conv => whnf)))
    · rename_i hj'
      have hj' := lt_t hj'
      have h : (missB s.1) (getE tI g j).1 = true := h
      rw [drop_get _ hj', idxP, if_pos h] at hl
      all_goals ((with_reducible refine leaf_i ?_); (conv => whnf))
      repeat' ((with_reducible refine And.intro ?_ ?_) <;> (try (conv => whnf)))
      all_goals (try (first | with_reducible rfl | exact True.intro | rfl | exact id | exact fun h => h | exact fun _ => rfl))
      all_goals first | exact hl | rfl
    · rename_i hj'
      have hj' := lt_t hj'
      have h' : ¬ (missB s.1) (getE tI g j).1 = true := fun hh => Bool.noConfusion (h.symm.trans hh)
      rw [drop_get _ hj', idxP, if_neg h'] at hl
      refine next_i (j + 1) ⟨hj', hl⟩ (by omega) rfl rfl ?_
      conv => whnf
      refine ⟨rfl, leaf_i ?_⟩
      repeat' ((with_reducible refine And.intro ?_ ?_) <;> (try (conv => whnf)))
      all_goals (try (first | with_reducible rfl | exact True.intro | rfl | exact id | exact fun h => h | exact fun _ => rfl))
      all_goals first | exact wrapS (Nat.lt_trans hj' hp1) | rfl
    · have hj' := lt_f h
      rw [List.drop_eq_nil_of_le hj', idxP] at hl
      all_goals ((with_reducible refine leaf_i ?_); (conv => whnf))
      repeat' ((with_reducible refine And.intro ?_ ?_) <;> (try (conv => whnf)))
      all_goals (try (first | with_reducible rfl | exact True.intro | rfl | exact id | exact fun h => h | exact fun _ => rfl))
      all_goals first | exact hl | rfl
def k_horder1 : Sig := .arg (shR tI) fun l => .arg (shFn 51 (shCons (shRp (shR tB)) (shNil))) fun s => .done { pre := l.length < 4611686018427387904 ∧ ∀ x ∈ l, 0 ≤ x.1 ∧ x.1 < (s.1.length : Int), res := B (hasP ((missB s.1)) l) }
set_option maxHeartbeats 4000000 in
theorem c_horder1 : FnOk Try.prog 42 k_horder1.con := by
  refine fnOkS mixed tys_ok (cs := [(52, k_xorder1.con)]) ⟨c_xorder1, trivial⟩ Try.func42 rfl (by kernel_rfl) Try.ntmps42 _ (h := ?_)
  intro g s
  refine ⟨rfl, fun hp => ?_⟩
  conv => whnf
  repeat' ((first
    | with_reducible refine ⟨fun h => h, ?_⟩
    | with_reducible refine ⟨pk1, ?_⟩
    | with_reducible refine ⟨pk2, ?_⟩
    | with_reducible refine ⟨pk3, ?_⟩
    | with_reducible refine ⟨pk4, ?_⟩
    | with_reducible refine ⟨pk5, ?_⟩
    | with_reducible refine ⟨pk6, ?_⟩
    | with_reducible refine ⟨trivial, ?_⟩
    | with_reducible refine ⟨fun _ => trivial, ?_⟩
    | with_reducible refine ⟨rfl, ?_⟩
    | with_reducible refine every_i (fun hd => ?_)
    | with_reducible refine fork_t (by assumption) ?_
    | with_reducible refine fork_f (by assumption) ?_
    | refine fork_t rfl ?_
    | refine fork_f rfl ?_
    | with_reducible refine fork_i (fun h => ?_) (fun h => ?_)
    | with_reducible refine both_i ?_ ?_
    | ((with_reducible refine alike_i ?_); exact ⟨rfl, rfl, rfl⟩)
    | ((with_reducible refine fin_i ?_); (conv => whnf); refine ⟨rfl, ?_⟩)
    | refine ⟨hp, ?_⟩
    | refine ⟨of_decide_eq_true rfl, ?_⟩
    | refine ⟨fun _ => of_decide_eq_true rfl, ?_⟩
    | ((with_reducible refine ⟨?_, ?_⟩); (focus (intros; simp_all; done)))
    | ((with_reducible refine ⟨?_, ?_⟩); (focus (intros; omega)))) <;> (try (conv => whnf)))
  all_goals ((with_reducible refine leaf_i ?_); (conv => whnf))
  repeat' ((with_reducible refine And.intro ?_ ?_) <;> (try (conv => whnf)))
  all_goals (try (first | with_reducible rfl | exact True.intro | rfl | exact id | exact fun h => h | exact fun _ => rfl))
  all_goals first | rfl | trace_state

/-! ### check.stuck$1 -/
def k_stuck1 : Sig := .arg shI fun i => .arg (shRp (shR tN)) fun gg => .arg (shRp shI) fun least => .arg (shRp (shR tBB)) fun to => .arg (shRp shI) fun at_ => .done { pre := backP gg to at_ i, res := B (backB gg least to at_ i) }
set_option maxHeartbeats 4000000 in
theorem c_stuck1 : FnOk Try.prog 46 k_stuck1.con := by
  refine fnOkS mixed tys_ok (cs := []) trivial Try.func46 rfl (by kernel_rfl) Try.ntmps46 _ (h := ?_)
  intro i gg least to at_
  refine ⟨rfl, fun hp => ?_⟩
  obtain ⟨hp1, hp2, hp3, hp4, hp5, hp6, hp7⟩ := hp
  conv => whnf
  repeat' ((first
    | with_reducible refine ⟨fun h => h, ?_⟩
    | with_reducible refine ⟨pk1, ?_⟩
    | with_reducible refine ⟨pk2, ?_⟩
    | with_reducible refine ⟨pk3, ?_⟩
    | with_reducible refine ⟨pk4, ?_⟩
    | with_reducible refine ⟨pk5, ?_⟩
    | with_reducible refine ⟨pk6, ?_⟩
    | with_reducible refine ⟨trivial, ?_⟩
    | with_reducible refine ⟨fun _ => trivial, ?_⟩
    | with_reducible refine ⟨rfl, ?_⟩
    | with_reducible refine every_i (fun hd => ?_)
    | with_reducible refine fork_t (by assumption) ?_
    | with_reducible refine fork_f (by assumption) ?_
    | refine fork_t rfl ?_
    | refine fork_f rfl ?_
    | with_reducible refine fork_i (fun h => ?_) (fun h => ?_)
    | with_reducible refine both_i ?_ ?_
    | ((with_reducible refine alike_i ?_); exact ⟨rfl, rfl, rfl⟩)
    | ((with_reducible refine fin_i ?_); (conv => whnf); refine ⟨rfl, ?_⟩)
    | refine ⟨⟨hp1, hp2⟩, ?_⟩
    | refine ⟨fun _ => hp3, ?_⟩
    | refine ⟨fun _ => hp4, ?_⟩
    | refine ⟨fun _ => hp5, ?_⟩
    | refine ⟨fun _ => hp6, ?_⟩
    | refine ⟨of_decide_eq_true rfl, ?_⟩
    | refine ⟨fun _ => of_decide_eq_true rfl, ?_⟩
    | ((with_reducible refine ⟨?_, ?_⟩); (focus (intros; simp_all; done)))
    | ((with_reducible refine ⟨?_, ?_⟩); (focus (intros; omega)))) <;> (try (conv => whnf)))
  all_goals ((with_reducible refine leaf_i ?_); (conv => whnf))
  repeat' ((with_reducible refine And.intro ?_ ?_) <;> (try (conv => whnf)))
  all_goals (try (first | with_reducible rfl | exact True.intro | rfl | exact id | exact fun h => h | exact fun _ => rfl))
def k_xstuck1 : Sig := .arg (shR tI) fun l => .arg (shFn 46 (shCons (shRp (shR tN)) (shCons (shRp shI) (shCons (shRp (shR tBB)) (shCons (shRp shI) (shNil)))))) fun s => .done { pre := l.length < 4611686018427387904 ∧ ∀ x ∈ l, backP s.1 s.2.2.1 s.2.2.2.1 x.1, res := I (idxP ((backB s.1 s.2.1 s.2.2.1 s.2.2.2.1)) 0 l) }
set_option maxHeartbeats 4000000 in
theorem c_xstuck1 : FnOk Try.prog 52 k_xstuck1.con := by
  refine fnOkS mixed tys_ok (cs := [(46, k_stuck1.con)]) ⟨c_stuck1, trivial⟩ Try.func52 rfl (by kernel_rfl) Try.ntmps52 _ (h := ?_)
  intro g s
  refine ⟨rfl, fun hp => ?_⟩
  obtain ⟨hp1, hp2⟩ := hp
  conv => whnf
  repeat' ((first
    | with_reducible refine ⟨fun h => h, ?_⟩
    | with_reducible refine ⟨pk1, ?_⟩
    | with_reducible refine ⟨pk2, ?_⟩
    | with_reducible refine ⟨pk3, ?_⟩
    | with_reducible refine ⟨pk4, ?_⟩
    | with_reducible refine ⟨pk5, ?_⟩
    | with_reducible refine ⟨pk6, ?_⟩
    | with_reducible refine ⟨trivial, ?_⟩
    | with_reducible refine ⟨fun _ => trivial, ?_⟩
    | with_reducible refine ⟨rfl, ?_⟩
    | with_reducible refine every_i (fun hd => ?_)
    | with_reducible refine fork_t (by assumption) ?_
    | with_reducible refine fork_f (by assumption) ?_
    | refine fork_t rfl ?_
    | refine fork_f rfl ?_
    | with_reducible refine fork_i (fun h => ?_) (fun h => ?_)
    | with_reducible refine both_i ?_ ?_
    | ((with_reducible refine alike_i ?_); exact ⟨rfl, rfl, rfl⟩)
    | ((with_reducible refine fin_i ?_); (conv => whnf); refine ⟨rfl, ?_⟩)
    | refine ⟨of_decide_eq_true rfl, ?_⟩
    | refine ⟨fun _ => of_decide_eq_true rfl, ?_⟩
    | ((with_reducible refine ⟨?_, ?_⟩); (focus (intros; simp_all; done)))
    | ((with_reducible refine ⟨?_, ?_⟩); (focus (intros; omega)))) <;> (try (conv => whnf)))
  refine looped (σ := Nat) (fun j => [(8, I j)]) (fun _ => []) (fun j => j ≤ g.length ∧ idxP ((backB s.1 s.2.1 s.2.2.1 s.2.2.2.1)) j (g.drop j) = idxP ((backB s.1 s.2.1 s.2.2.1 s.2.2.2.1)) 0 g) (fun j => g.length - j) 0 ⟨Nat.zero_le _, rfl⟩ ?_ ?_
  · conv => whnf
    refine ⟨rfl, leaf_i ?_⟩
    repeat' ((with_reducible refine And.intro ?_ ?_) <;> (try (conv => whnf)))
    all_goals (try (first | with_reducible rfl | exact True.intro | rfl | exact id | exact fun h => h | exact fun _ => rfl))
  · rintro j ⟨hj, hl⟩
    dsimp only at hj hl ⊢
    have hpre : decide ((j : Int) < (g.length : Int)) = true → backP s.1 s.2.2.1 s.2.2.2.1 (getE tI g j).1 := fun h => hp2 _ (getE_mem g (lt_t h))
    conv => whnf
    repeat' ((first
      | with_reducible refine ⟨fun h => h, ?_⟩
      | with_reducible refine ⟨pk1, ?_⟩
      | with_reducible refine ⟨pk2, ?_⟩
      | with_reducible refine ⟨pk3, ?_⟩
      | with_reducible refine ⟨pk4, ?_⟩
      | with_reducible refine ⟨pk5, ?_⟩
      | with_reducible refine ⟨pk6, ?_⟩
      | with_reducible refine ⟨trivial, ?_⟩
      | with_reducible refine ⟨fun _ => trivial, ?_⟩
      | with_reducible refine ⟨rfl, ?_⟩
      | with_reducible refine every_i (fun hd => ?_)
      | with_reducible refine fork_t (by assumption) ?_
      | with_reducible refine fork_f (by assumption) ?_
      | refine fork_t rfl ?_
      | refine fork_f rfl ?_
      | with_reducible refine fork_i (fun h => ?_) (fun h => ?_)
      | with_reducible refine both_i ?_ ?_
      | ((with_reducible refine alike_i ?_); exact ⟨rfl, rfl, rfl⟩)
      | ((with_reducible refine fin_i ?_); (conv => whnf); refine ⟨rfl, ?_⟩)
      | refine ⟨hpre (by assumption), ?_⟩
      | refine ⟨of_decide_eq_true rfl, ?_⟩
      | refine ⟨fun _ => of_decide_eq_true rfl, ?_⟩
      | ((with_reducible refine ⟨?_, ?_⟩); (focus (intros; simp_all; done)))
      | ((with_reducible refine ⟨?_, ?_⟩); (focus (intros; omega)))) <;> (try (conv => whnf)))
    · rename_i hj'
      have hj' := lt_t hj'
      have h : (backB s.1 s.2.1 s.2.2.1 s.2.2.2.1) (getE tI g j).1 = true := h
      rw [drop_get _ hj', idxP, if_pos h] at hl
      all_goals ((with_reducible refine leaf_i ?_); (conv => whnf))
      repeat' ((with_reducible refine And.intro ?_ ?_) <;> (try (conv => whnf)))
      all_goals (try (first | with_reducible rfl | exact True.intro | rfl | exact id | exact fun h => h | exact fun _ => rfl))
      all_goals first | exact hl | rfl
    · rename_i hj'
      have hj' := lt_t hj'
      have h' : ¬ (backB s.1 s.2.1 s.2.2.1 s.2.2.2.1) (getE tI g j).1 = true := fun hh => Bool.noConfusion (h.symm.trans hh)
      rw [drop_get _ hj', idxP, if_neg h'] at hl
      refine next_i (j + 1) ⟨hj', hl⟩ (by omega) rfl rfl ?_
      conv => whnf
      refine ⟨rfl, leaf_i ?_⟩
      repeat' ((with_reducible refine And.intro ?_ ?_) <;> (try (conv => whnf)))
      all_goals (try (first | with_reducible rfl | exact True.intro | rfl | exact id | exact fun h => h | exact fun _ => rfl))
      all_goals first | exact wrapS (Nat.lt_trans hj' hp1) | rfl
    · have hj' := lt_f h
      rw [List.drop_eq_nil_of_le hj', idxP] at hl
      all_goals ((with_reducible refine leaf_i ?_); (conv => whnf))
      repeat' ((with_reducible refine And.intro ?_ ?_) <;> (try (conv => whnf)))
      all_goals (try (first | with_reducible rfl | exact True.intro | rfl | exact id | exact fun h => h | exact fun _ => rfl))
      all_goals first | exact hl | rfl
def k_hstuck1 : Sig := .arg (shR tI) fun l => .arg (shFn 46 (shCons (shRp (shR tN)) (shCons (shRp shI) (shCons (shRp (shR tBB)) (shCons (shRp shI) (shNil)))))) fun s => .done { pre := l.length < 4611686018427387904 ∧ ∀ x ∈ l, backP s.1 s.2.2.1 s.2.2.2.1 x.1, res := B (hasP ((backB s.1 s.2.1 s.2.2.1 s.2.2.2.1)) l) }
set_option maxHeartbeats 4000000 in
theorem c_hstuck1 : FnOk Try.prog 42 k_hstuck1.con := by
  refine fnOkS mixed tys_ok (cs := [(52, k_xstuck1.con)]) ⟨c_xstuck1, trivial⟩ Try.func42 rfl (by kernel_rfl) Try.ntmps42 _ (h := ?_)
  intro g s
  refine ⟨rfl, fun hp => ?_⟩
  conv => whnf
  repeat' ((first
    | with_reducible refine ⟨fun h => h, ?_⟩
    | with_reducible refine ⟨pk1, ?_⟩
    | with_reducible refine ⟨pk2, ?_⟩
    | with_reducible refine ⟨pk3, ?_⟩
    | with_reducible refine ⟨pk4, ?_⟩
    | with_reducible refine ⟨pk5, ?_⟩
    | with_reducible refine ⟨pk6, ?_⟩
    | with_reducible refine ⟨trivial, ?_⟩
    | with_reducible refine ⟨fun _ => trivial, ?_⟩
    | with_reducible refine ⟨rfl, ?_⟩
    | with_reducible refine every_i (fun hd => ?_)
    | with_reducible refine fork_t (by assumption) ?_
    | with_reducible refine fork_f (by assumption) ?_
    | refine fork_t rfl ?_
    | refine fork_f rfl ?_
    | with_reducible refine fork_i (fun h => ?_) (fun h => ?_)
    | with_reducible refine both_i ?_ ?_
    | ((with_reducible refine alike_i ?_); exact ⟨rfl, rfl, rfl⟩)
    | ((with_reducible refine fin_i ?_); (conv => whnf); refine ⟨rfl, ?_⟩)
    | refine ⟨hp, ?_⟩
    | refine ⟨of_decide_eq_true rfl, ?_⟩
    | refine ⟨fun _ => of_decide_eq_true rfl, ?_⟩
    | ((with_reducible refine ⟨?_, ?_⟩); (focus (intros; simp_all; done)))
    | ((with_reducible refine ⟨?_, ?_⟩); (focus (intros; omega)))) <;> (try (conv => whnf)))
  all_goals ((with_reducible refine leaf_i ?_); (conv => whnf))
  repeat' ((with_reducible refine And.intro ?_ ?_) <;> (try (conv => whnf)))
  all_goals (try (first | with_reducible rfl | exact True.intro | rfl | exact id | exact fun h => h | exact fun _ => rfl))
  all_goals first | rfl | trace_state

end Go.Proofs.Ytbgcgokikekmoaa

/- Layer 10: a node's inputs and depth; Node. -/
namespace Go.Proofs.Ytbgcgokikekmoaa
set_option linter.unusedVariables false
set_option linter.unusedSimpArgs false
set_option maxRecDepth 100000
open Go Go.RowKit Go.Proofs.Ytbgcgokikekmoaa.Eng

def k_arity : Sig := .arg (shK .u8) fun k => .done { pre := True, res := I (arK k) }
set_option maxHeartbeats 4000000 in
theorem c_arity : FnOk Try.prog 41 k_arity.con := by
  refine fnOkS mixed tys_ok (cs := []) trivial Try.func41 rfl (by kernel_rfl) Try.ntmps41 _ (h := ?_)
  intro k
  refine ⟨rfl, fun _ => ?_⟩
  conv => whnf
  repeat' ((first
    | with_reducible refine ⟨fun h => h, ?_⟩
    | with_reducible refine ⟨pk1, ?_⟩
    | with_reducible refine ⟨pk2, ?_⟩
    | with_reducible refine ⟨pk3, ?_⟩
    | with_reducible refine ⟨pk4, ?_⟩
    | with_reducible refine ⟨pk5, ?_⟩
    | with_reducible refine ⟨pk6, ?_⟩
    | with_reducible refine ⟨trivial, ?_⟩
    | with_reducible refine ⟨fun _ => trivial, ?_⟩
    | with_reducible refine ⟨rfl, ?_⟩
    | with_reducible refine every_i (fun hd => ?_)
    | with_reducible refine fork_t (by assumption) ?_
    | with_reducible refine fork_f (by assumption) ?_
    | refine fork_t rfl ?_
    | refine fork_f rfl ?_
    | with_reducible refine fork_i (fun h => ?_) (fun h => ?_)
    | with_reducible refine both_i ?_ ?_
    | ((with_reducible refine alike_i ?_); exact ⟨rfl, rfl, rfl⟩)
    | ((with_reducible refine fin_i ?_); (conv => whnf); refine ⟨rfl, ?_⟩)
    | refine ⟨of_decide_eq_true rfl, ?_⟩
    | refine ⟨fun _ => of_decide_eq_true rfl, ?_⟩
    | ((with_reducible refine ⟨?_, ?_⟩); (focus (intros; simp_all; done)))
    | ((with_reducible refine ⟨?_, ?_⟩); (focus (intros; omega)))) <;> (try (conv => whnf)))
  all_goals ((with_reducible refine leaf_i ?_); (conv => whnf))
  repeat' ((with_reducible refine And.intro ?_ ?_) <;> (try (conv => whnf)))
  all_goals (try (first | with_reducible rfl | exact True.intro | rfl | exact id | exact fun h => h | exact fun _ => rfl))
  all_goals (first | rfl | (congr 2; simp_all [arK]; done) | trace_state)

def k_ports : Sig := .arg (shR tN) fun g => .arg (shT tN) fun n => .done { pre := (Nd.ins n).length < 4611686018427387904, res := B (portsB g n) }
set_option maxHeartbeats 4000000 in
theorem c_ports : FnOk Try.prog 25 k_ports.con := by
  refine fnOkS mixed tys_ok (cs := [(41, k_arity.con), (42, k_hports1.con)]) ⟨c_arity, c_hports1, trivial⟩ Try.func25 rfl (by kernel_rfl) Try.ntmps25 _ (h := ?_)
  intro g n
  refine ⟨rfl, fun hp => ?_⟩
  have hp : (Nd.ins n).length < 4611686018427387904 := hp
  conv => whnf
  repeat' ((first
    | with_reducible refine ⟨fun h => h, ?_⟩
    | with_reducible refine ⟨pk1, ?_⟩
    | with_reducible refine ⟨pk2, ?_⟩
    | with_reducible refine ⟨pk3, ?_⟩
    | with_reducible refine ⟨pk4, ?_⟩
    | with_reducible refine ⟨pk5, ?_⟩
    | with_reducible refine ⟨pk6, ?_⟩
    | with_reducible refine ⟨trivial, ?_⟩
    | with_reducible refine ⟨fun _ => trivial, ?_⟩
    | with_reducible refine ⟨rfl, ?_⟩
    | with_reducible refine every_i (fun hd => ?_)
    | with_reducible refine fork_t (by assumption) ?_
    | with_reducible refine fork_f (by assumption) ?_
    | refine fork_t rfl ?_
    | refine fork_f rfl ?_
    | with_reducible refine fork_i (fun h => ?_) (fun h => ?_)
    | with_reducible refine both_i ?_ ?_
    | ((with_reducible refine alike_i ?_); exact ⟨rfl, rfl, rfl⟩)
    | ((with_reducible refine fin_i ?_); (conv => whnf); refine ⟨rfl, ?_⟩)
    | refine ⟨fun _ => ⟨hp, fun _ _ => trivial⟩, ?_⟩
    | refine ⟨of_decide_eq_true rfl, ?_⟩
    | refine ⟨fun _ => of_decide_eq_true rfl, ?_⟩
    | ((with_reducible refine ⟨?_, ?_⟩); (focus (intros; simp_all; done)))
    | ((with_reducible refine ⟨?_, ?_⟩); (focus (intros; omega)))) <;> (try (conv => whnf)))
  all_goals ((with_reducible refine leaf_i ?_); (conv => whnf))
  repeat' ((with_reducible refine And.intro ?_ ?_) <;> (try (conv => whnf)))
  all_goals (try (first | with_reducible rfl | exact True.intro | rfl | exact id | exact fun h => h | exact fun _ => rfl))
  all_goals (first | rfl | trace_state)

theorem depthB_go {g : List Nd} {n : Nd} (h1 : ¬ (n.kind = 9 ∧ n.dep < 1)) (h2 : ¬ ((n.kind = 1 ∨ n.kind = 10) ∧ n.dep ≠ 0)) {f : Int} (hf : fedK n.kind n.dep = f) :
    depthB g n = bif (bif decide (n.dep ≥ 0) then decide (n.dep ≤ 3) else false) then !hasP (otherB g f) n.ins else false := by
  unfold depthB; rw [if_neg h1, if_neg h2, hf]
def k_depth : Sig := .arg (shR tN) fun g => .arg (shT tN) fun n => .done { pre := (Nd.ins n).length < 4611686018427387904 ∧ ∀ x ∈ Nd.ins n, 0 ≤ x.1 ∧ x.1 < (g.length : Int), res := B (depthB g n) }
set_option maxHeartbeats 4000000 in
theorem c_depth : FnOk Try.prog 26 k_depth.con := by
  refine fnOkS mixed tys_ok (cs := [(42, k_hdepth1.con)]) ⟨c_hdepth1, trivial⟩ Try.func26 rfl (by kernel_rfl) Try.ntmps26 _ (h := ?_)
  intro g n
  refine ⟨rfl, fun hp => ?_⟩
  conv => whnf
  repeat' ((first
    | with_reducible refine ⟨fun h => h, ?_⟩
    | with_reducible refine ⟨pk1, ?_⟩
    | with_reducible refine ⟨pk2, ?_⟩
    | with_reducible refine ⟨pk3, ?_⟩
    | with_reducible refine ⟨pk4, ?_⟩
    | with_reducible refine ⟨pk5, ?_⟩
    | with_reducible refine ⟨pk6, ?_⟩
    | with_reducible refine ⟨trivial, ?_⟩
    | with_reducible refine ⟨fun _ => trivial, ?_⟩
    | with_reducible refine ⟨rfl, ?_⟩
    | with_reducible refine every_i (fun hd => ?_)
    | with_reducible refine fork_t (by assumption) ?_
    | with_reducible refine fork_f (by assumption) ?_
    | refine fork_t rfl ?_
    | refine fork_f rfl ?_
    | with_reducible refine fork_i (fun h => ?_) (fun h => ?_)
    | with_reducible refine both_i ?_ ?_
    | ((with_reducible refine alike_i ?_); exact ⟨rfl, rfl, rfl⟩)
    | ((with_reducible refine fin_i ?_); (conv => whnf); refine ⟨rfl, ?_⟩)
    | refine ⟨fun _ => hp, ?_⟩
    | refine ⟨of_decide_eq_true rfl, ?_⟩
    | refine ⟨fun _ => of_decide_eq_true rfl, ?_⟩
    | ((with_reducible refine ⟨?_, ?_⟩); (focus (intros; simp_all; done)))
    | ((with_reducible refine ⟨?_, ?_⟩); (focus (intros; omega)))) <;> (try (conv => whnf)))
  all_goals ((with_reducible refine leaf_i ?_); (conv => whnf))
  repeat' ((with_reducible refine And.intro ?_ ?_) <;> (try (conv => whnf)))
  all_goals (try (first | with_reducible rfl | exact True.intro | rfl | exact id | exact fun h => h | exact fun _ => rfl))
  all_goals (first | (refine (depthB_go ?_ ?_ ?_).symm <;> first | (simp_all [Nd.kind, Nd.dep, fedK]; done) | (simp_all [Nd.kind, Nd.dep, fedK]; omega)) | (symm; simp only [beq_iff_eq, bne_iff_ne, decide_eq_true_eq, beq_eq_false_iff_ne] at *; unfold depthB Nd.kind Nd.dep; (first | rw [if_pos ⟨by assumption, by assumption⟩] | rw [if_neg (fun hh => by omega), if_pos ⟨by omega, by assumption⟩])) | skip)
end Go.Proofs.Ytbgcgokikekmoaa

/- Layer 10: Node; all places. -/
namespace Go.Proofs.Ytbgcgokikekmoaa
set_option linter.unusedVariables false
set_option linter.unusedSimpArgs false
set_option maxRecDepth 100000
open Go Go.RowKit Go.Proofs.Ytbgcgokikekmoaa.Eng

def k_node : Sig := .arg (shR tN) fun g => .arg shI fun i => .done { pre := g.length < 4611686018427387904 ∧ ∀ x : Nd, x ∈ g → (Nd.ins x).length < 4611686018427387904, res := I (nodeE g i) }
set_option maxHeartbeats 4000000 in
theorem c_node : FnOk Try.prog 12 k_node.con := by
  refine fnOkS mixed tys_ok (cs := [(24, k_numbers.con), (25, k_ports.con), (26, k_depth.con)]) ⟨c_numbers, c_ports, c_depth, trivial⟩ Try.func12 rfl (by kernel_rfl) Try.ntmps12 _ (h := ?_)
  intro g i
  refine ⟨rfl, fun hp => ?_⟩
  obtain ⟨hp1, hp2⟩ := hp
  by_cases h1 : i < 0
  · have e1 : decide (i < 0) = true := by simp [h1]
    conv => whnf
    repeat' ((first
      | with_reducible refine ⟨fun h => h, ?_⟩
      | with_reducible refine ⟨pk1, ?_⟩
      | with_reducible refine ⟨pk2, ?_⟩
      | with_reducible refine ⟨pk3, ?_⟩
      | with_reducible refine ⟨pk4, ?_⟩
      | with_reducible refine ⟨pk5, ?_⟩
      | with_reducible refine ⟨pk6, ?_⟩
      | with_reducible refine ⟨trivial, ?_⟩
      | with_reducible refine ⟨fun _ => trivial, ?_⟩
      | with_reducible refine ⟨rfl, ?_⟩
      | with_reducible refine every_i (fun hd => ?_)
      | with_reducible refine fork_t (by assumption) ?_
      | with_reducible refine fork_f (by assumption) ?_
      | refine fork_t rfl ?_
      | refine fork_f rfl ?_
      | with_reducible refine fork_i (fun h => ?_) (fun h => ?_)
      | with_reducible refine both_i ?_ ?_
      | ((with_reducible refine alike_i ?_); exact ⟨rfl, rfl, rfl⟩)
      | ((with_reducible refine fin_i ?_); (conv => whnf); refine ⟨rfl, ?_⟩)
      | refine ⟨of_decide_eq_true rfl, ?_⟩
      | refine ⟨fun _ => of_decide_eq_true rfl, ?_⟩
      | ((with_reducible refine ⟨?_, ?_⟩); (focus (intros; simp_all; done)))
      | ((with_reducible refine ⟨?_, ?_⟩); (focus (intros; omega)))) <;> (try (conv => whnf)))
    all_goals ((with_reducible refine leaf_i ?_); (conv => whnf))
    repeat' ((with_reducible refine And.intro ?_ ?_) <;> (try (conv => whnf)))
    all_goals (try (first | with_reducible rfl | exact True.intro | rfl | exact id | exact fun h => h | exact fun _ => rfl))
    all_goals (first | rfl | (simp_all [nodeE]; done) | trace_state)
  · by_cases h2 : i ≥ (g.length : Int)
    · conv => whnf
      repeat' ((first
        | with_reducible refine ⟨fun h => h, ?_⟩
        | with_reducible refine ⟨pk1, ?_⟩
        | with_reducible refine ⟨pk2, ?_⟩
        | with_reducible refine ⟨pk3, ?_⟩
        | with_reducible refine ⟨pk4, ?_⟩
        | with_reducible refine ⟨pk5, ?_⟩
        | with_reducible refine ⟨pk6, ?_⟩
        | with_reducible refine ⟨trivial, ?_⟩
        | with_reducible refine ⟨fun _ => trivial, ?_⟩
        | with_reducible refine ⟨rfl, ?_⟩
        | with_reducible refine every_i (fun hd => ?_)
        | with_reducible refine fork_t (by assumption) ?_
        | with_reducible refine fork_f (by assumption) ?_
        | refine fork_t rfl ?_
        | refine fork_f rfl ?_
        | with_reducible refine fork_i (fun h => ?_) (fun h => ?_)
        | with_reducible refine both_i ?_ ?_
        | ((with_reducible refine alike_i ?_); exact ⟨rfl, rfl, rfl⟩)
        | ((with_reducible refine fin_i ?_); (conv => whnf); refine ⟨rfl, ?_⟩)
        | refine ⟨of_decide_eq_true rfl, ?_⟩
        | refine ⟨fun _ => of_decide_eq_true rfl, ?_⟩
        | ((with_reducible refine ⟨?_, ?_⟩); (focus (intros; simp_all; done)))
        | ((with_reducible refine ⟨?_, ?_⟩); (focus (intros; omega)))) <;> (try (conv => whnf)))
      all_goals ((with_reducible refine leaf_i ?_); (conv => whnf))
      repeat' ((with_reducible refine And.intro ?_ ?_) <;> (try (conv => whnf)))
      all_goals (try (first | with_reducible rfl | exact True.intro | rfl | exact id | exact fun h => h | exact fun _ => rfl))
      all_goals (first | rfl | (simp_all [nodeE]; done) | trace_state)
    · have hin : 0 ≤ i ∧ i < (g.length : Int) := by omega
      have hl : (Nd.ins (nd g i)).length < 4611686018427387904 := hp2 _ (getE_mem g (by omega))
      conv => whnf
      repeat' ((first
        | with_reducible refine ⟨fun h => h, ?_⟩
        | with_reducible refine ⟨pk1, ?_⟩
        | with_reducible refine ⟨pk2, ?_⟩
        | with_reducible refine ⟨pk3, ?_⟩
        | with_reducible refine ⟨pk4, ?_⟩
        | with_reducible refine ⟨pk5, ?_⟩
        | with_reducible refine ⟨pk6, ?_⟩
        | with_reducible refine ⟨trivial, ?_⟩
        | with_reducible refine ⟨fun _ => trivial, ?_⟩
        | with_reducible refine ⟨rfl, ?_⟩
        | with_reducible refine every_i (fun hd => ?_)
        | with_reducible refine fork_t (by assumption) ?_
        | with_reducible refine fork_f (by assumption) ?_
        | refine fork_t rfl ?_
        | refine fork_f rfl ?_
        | with_reducible refine fork_i (fun h => ?_) (fun h => ?_)
        | with_reducible refine both_i ?_ ?_
        | ((with_reducible refine alike_i ?_); exact ⟨rfl, rfl, rfl⟩)
        | ((with_reducible refine fin_i ?_); (conv => whnf); refine ⟨rfl, ?_⟩)
        | refine ⟨hin, ?_⟩
        | refine ⟨hl, ?_⟩
        | refine ⟨⟨hl, portsB_in (by simp_all [nd])⟩, ?_⟩
        | refine ⟨of_decide_eq_true rfl, ?_⟩
        | refine ⟨fun _ => of_decide_eq_true rfl, ?_⟩
        | ((with_reducible refine ⟨?_, ?_⟩); (focus (intros; simp_all; done)))
        | ((with_reducible refine ⟨?_, ?_⟩); (focus (intros; omega)))) <;> (try (conv => whnf)))
      all_goals ((with_reducible refine leaf_i ?_); (conv => whnf))
      repeat' ((with_reducible refine And.intro ?_ ?_) <;> (try (conv => whnf)))
      all_goals (try (first | with_reducible rfl | exact True.intro | rfl | exact id | exact fun h => h | exact fun _ => rfl))
      all_goals (first | rfl | (simp_all [nodeE, nd]; done) | trace_state)

def k_places : Sig := .arg (shR tN) fun g => .done { pre := g.length < 1000000000, res := .rl true tI (plN g.length) }
set_option maxHeartbeats 4000000 in
theorem c_places : FnOk Try.prog 47 k_places.con := by
  refine fnOkS mixed tys_ok (cs := []) trivial Try.func47 rfl (by kernel_rfl) Try.ntmps47 _ (h := ?_)
  intro g
  refine ⟨rfl, fun hp => ?_⟩
  have hp : g.length < 1000000000 := hp
  conv => whnf
  repeat' ((first
    | with_reducible refine ⟨fun h => h, ?_⟩
    | with_reducible refine ⟨pk1, ?_⟩
    | with_reducible refine ⟨pk2, ?_⟩
    | with_reducible refine ⟨pk3, ?_⟩
    | with_reducible refine ⟨pk4, ?_⟩
    | with_reducible refine ⟨pk5, ?_⟩
    | with_reducible refine ⟨pk6, ?_⟩
    | with_reducible refine ⟨trivial, ?_⟩
    | with_reducible refine ⟨fun _ => trivial, ?_⟩
    | with_reducible refine ⟨rfl, ?_⟩
    | with_reducible refine every_i (fun hd => ?_)
    | with_reducible refine fork_t (by assumption) ?_
    | with_reducible refine fork_f (by assumption) ?_
    | refine fork_t rfl ?_
    | refine fork_f rfl ?_
    | with_reducible refine fork_i (fun h => ?_) (fun h => ?_)
    | with_reducible refine both_i ?_ ?_
    | ((with_reducible refine alike_i ?_); exact ⟨rfl, rfl, rfl⟩)
    | ((with_reducible refine fin_i ?_); (conv => whnf); refine ⟨rfl, ?_⟩)
    | refine ⟨of_decide_eq_true rfl, ?_⟩
    | refine ⟨fun _ => of_decide_eq_true rfl, ?_⟩
    | ((with_reducible refine ⟨?_, ?_⟩); (focus (intros; simp_all; done)))
    | ((with_reducible refine ⟨?_, ?_⟩); (focus (intros; omega)))) <;> (try (conv => whnf)))
  refine looped (σ := Nat × List (El tI)) (fun x => [(6, I x.1), (2, .ow 0 1 x.2.length)]) (fun x => [.row true tI 3 x.2]) (fun x => x.1 ≤ g.length ∧ x.2 = plN x.1) (fun x => g.length - x.1) (0, []) ⟨Nat.zero_le _, rfl⟩ ?_ ?_
  · conv => whnf
    refine ⟨rfl, leaf_i ?_⟩
    repeat' ((with_reducible refine And.intro ?_ ?_) <;> (try (conv => whnf)))
    all_goals (try (first | with_reducible rfl | exact True.intro | rfl | exact id | exact fun h => h | exact fun _ => rfl))
  · rintro ⟨j, l⟩ ⟨hj, hl⟩
    dsimp only at hj hl ⊢
    have hll : l.length = j := by rw [hl, plN_len]
    conv => whnf
    repeat' ((first
      | with_reducible refine ⟨fun h => h, ?_⟩
      | with_reducible refine ⟨pk1, ?_⟩
      | with_reducible refine ⟨pk2, ?_⟩
      | with_reducible refine ⟨pk3, ?_⟩
      | with_reducible refine ⟨pk4, ?_⟩
      | with_reducible refine ⟨pk5, ?_⟩
      | with_reducible refine ⟨pk6, ?_⟩
      | with_reducible refine ⟨trivial, ?_⟩
      | with_reducible refine ⟨fun _ => trivial, ?_⟩
      | with_reducible refine ⟨rfl, ?_⟩
      | with_reducible refine every_i (fun hd => ?_)
      | with_reducible refine fork_t (by assumption) ?_
      | with_reducible refine fork_f (by assumption) ?_
      | refine fork_t rfl ?_
      | refine fork_f rfl ?_
      | with_reducible refine fork_i (fun h => ?_) (fun h => ?_)
      | with_reducible refine both_i ?_ ?_
      | ((with_reducible refine alike_i ?_); exact ⟨rfl, rfl, rfl⟩)
      | ((with_reducible refine fin_i ?_); (conv => whnf); refine ⟨rfl, ?_⟩)
      | refine ⟨of_decide_eq_true rfl, ?_⟩
      | refine ⟨fun _ => of_decide_eq_true rfl, ?_⟩
      | ((with_reducible refine ⟨?_, ?_⟩); (focus (intros; simp_all; done)))
      | ((with_reducible refine ⟨?_, ?_⟩); (focus (intros; omega)))) <;> (try (conv => whnf)))
    · have hj' := lt_t h
      refine ⟨by simp only [List.length_append, List.length_cons, List.length_nil]; omega, ?_⟩
      (conv => whnf)
      conv => whnf
      repeat' ((first
        | with_reducible refine ⟨fun h => h, ?_⟩
        | with_reducible refine ⟨pk1, ?_⟩
        | with_reducible refine ⟨pk2, ?_⟩
        | with_reducible refine ⟨pk3, ?_⟩
        | with_reducible refine ⟨pk4, ?_⟩
        | with_reducible refine ⟨pk5, ?_⟩
        | with_reducible refine ⟨pk6, ?_⟩
        | with_reducible refine ⟨trivial, ?_⟩
        | with_reducible refine ⟨fun _ => trivial, ?_⟩
        | with_reducible refine ⟨rfl, ?_⟩
        | with_reducible refine every_i (fun hd => ?_)
        | with_reducible refine fork_t (by assumption) ?_
        | with_reducible refine fork_f (by assumption) ?_
        | refine fork_t rfl ?_
        | refine fork_f rfl ?_
        | with_reducible refine fork_i (fun h => ?_) (fun h => ?_)
        | with_reducible refine both_i ?_ ?_
        | ((with_reducible refine alike_i ?_); exact ⟨rfl, rfl, rfl⟩)
        | ((with_reducible refine fin_i ?_); (conv => whnf); refine ⟨rfl, ?_⟩)
        | refine ⟨of_decide_eq_true rfl, ?_⟩
        | refine ⟨fun _ => of_decide_eq_true rfl, ?_⟩
        | ((with_reducible refine ⟨?_, ?_⟩); (focus (intros; simp_all; done)))
        | ((with_reducible refine ⟨?_, ?_⟩); (focus (intros; omega)))) <;> (try (conv => whnf)))
      refine next_i (j + 1, l ++ [((j : Int), ())]) ⟨hj', by rw [hl]; rfl⟩ (by dsimp only; omega) rfl rfl ?_
      conv => whnf
      refine ⟨rfl, leaf_i ?_⟩
      repeat' ((with_reducible refine And.intro ?_ ?_) <;> (try (conv => whnf)))
      all_goals (try (first | with_reducible rfl | exact True.intro | rfl | exact id | exact fun h => h | exact fun _ => rfl))
      all_goals (try (first | rfl | exact wrapS (by omega)))
    · have hj' := lt_f h
      all_goals ((with_reducible refine leaf_i ?_); (conv => whnf))
      repeat' ((with_reducible refine And.intro ?_ ?_) <;> (try (conv => whnf)))
      all_goals (try (first | with_reducible rfl | exact True.intro | rfl | exact id | exact fun h => h | exact fun _ => rfl))
      all_goals (first | (rw [hl, show j = g.length from Nat.le_antisymm hj hj']; done) | trace_state)
end Go.Proofs.Ytbgcgokikekmoaa
