/- Layer 8: Compact (in own memory). -/
import Derived.Test.YthlkhjfilfdpiaaD08L
namespace Go.Proofs.Ythlkhjfilfdpiaa
set_option linter.unusedVariables false
set_option linter.unusedSimpArgs false
set_option maxRecDepth 100000
open Go Go.RowKit Go.Proofs.Ythlkhjfilfdpiaa.Eng

/-- A row without what stands behind its like. -/
def compG (p : El tS) : List (El tS) → List (El tS)
  | [] => []
  | y :: r => if eqS y p = true then compG y r else y :: compG y r
def comp : List (El tS) → List (El tS)
  | [] => []
  | x :: r => x :: compG x r
theorem compG_snoc : ∀ (r : List (El tS)) (p y : El tS), compG p (r ++ [y]) = compG p r ++ if eqS y ((p :: r).getLast (by simp)) = true then [] else [y]
  | [], p, y => by
    by_cases h : eqS y p = true
    · simp [compG, h]
    · simp [compG, h]
  | z :: r, p, y => by
    have ih := compG_snoc r z y
    have e : (p :: z :: r).getLast (by simp) = (z :: r).getLast (by simp) := by simp
    rw [e]
    simp only [List.cons_append, compG]
    split
    · exact ih
    · rw [ih]; rfl
theorem comp_snoc (l : List (El tS)) (y : El tS) (h : l ≠ []) : comp (l ++ [y]) = comp l ++ if eqS y (l.getLast h) = true then [] else [y] := by
  cases l with
  | nil => exact absurd rfl h
  | cons x r => simp only [List.cons_append, comp]; rw [compG_snoc]
theorem take_last (l : List (El tS)) (m : Nat) (h1 : 1 ≤ m) (hm : m ≤ l.length) (h : l.take m ≠ []) : (l.take m).getLast h = getE tS l (m - 1) := by
  rw [List.getLast_eq_getElem]
  unfold getE
  have hlt : m - 1 < l.length := by omega
  simp [List.getD, Nat.min_eq_left hm, List.getElem_take, hlt]
theorem comp_take (l : List (El tS)) (m : Nat) (h1 : 1 ≤ m) (hm : m < l.length) : comp (l.take (m + 1)) = comp (l.take m) ++ if eqS (getE tS l m) (getE tS l (m - 1)) = true then [] else [getE tS l m] := by
  have hne : l.take m ≠ [] := by
    intro h; have := congrArg List.length h; rw [List.length_take, Nat.min_eq_left (by omega)] at this; simp at this; omega
  rw [List.take_succ_eq_append_getElem hm, comp_snoc _ _ hne, take_last l m h1 (by omega)]
  have : l[m] = getE tS l m := by unfold getE; simp [List.getD, hm]
  rw [this]
theorem comp_one (l : List (El tS)) (h : 1 ≤ l.length) : comp (l.take 1) = l.take 1 := by
  cases l with
  | nil => simp at h
  | cons x r => rfl
theorem comp_len : ∀ (l : List (El tS)), (comp l).length ≤ l.length
  | [] => Nat.le_refl _
  | x :: r => by
    have : ∀ (r : List (El tS)) (p : El tS), (compG p r).length ≤ r.length := by
      intro r
      induction r with
      | nil => intro p; exact Nat.le_refl _
      | cons y r ih =>
        intro p
        simp only [compG]
        split
        · have := ih y; simp only [List.length_cons]; omega
        · have := ih y; simp only [List.length_cons]; omega
    simp only [comp, List.length_cons]
    have := this r x
    omega
/-- A row, and noughts behind it. -/
def compZ (l : List (El tS)) : List (El tS) := comp l ++ List.replicate (l.length - (comp l).length) (zeroE tS)
theorem compZ_self {l : List (El tS)} (h : comp l = l) : compZ l = l := by
  unfold compZ; rw [h]; simp
theorem compZ_clear {l M : List (El tS)} {k : Nat} (hk : k = (comp l).length) (hM : M.take k = comp l) (hl : M.length = l.length) : clearL M k (l.length - k) (zeroE tS) = compZ l := by
  have := comp_len l
  unfold clearL compZ
  rw [hM, List.drop_eq_nil_of_le (by omega), List.append_nil, hk]

theorem wrapD {k : Nat} (h1 : 1 ≤ k) (h : k < 4611686018427387904) : IntKind.i64.wrap ((k : Int) - 1) = ((k - 1 : Nat) : Int) := by
  rw [IntKind.wrap_i64]; omega
def k_comp : Sig := .arg (shOw 0 7) fun n => .obj (shRow tS 24) fun l => .done { pre := n = l.2.length ∧ l.2.length < 4611686018427387904, res := .ws 0 7 0 (comp l.2).length, lent := [.row l.1 tS 24 (compZ l.2)] }
set_option maxHeartbeats 4000000 in
theorem c_comp : FnOk Try.prog 39 k_comp.con := by
  refine fnOkS mixed tys_ok (cs := []) trivial Try.func39 rfl (by kernel_rfl) Try.ntmps39 _ (h := ?_)
  rintro n ⟨q, l⟩
  refine ⟨rfl, fun hp => ?_⟩
  obtain ⟨hn, hp⟩ := hp
  dsimp only at hn hp
  subst hn
  conv => whnf
  repeat' ((first
    | with_reducible refine ⟨fun h => h, ?_⟩
    | with_reducible refine ⟨pk1, ?_⟩
    | with_reducible refine ⟨pk2, ?_⟩
    | with_reducible refine ⟨pk3, ?_⟩
    | with_reducible refine ⟨pk4, ?_⟩
    | with_reducible refine ⟨pk5, ?_⟩
    | with_reducible refine ⟨pk6, ?_⟩
    | with_reducible refine ⟨trivial, ?_⟩
    | with_reducible refine ⟨fun _ => trivial, ?_⟩
    | with_reducible refine fork_t (by assumption) ?_
    | with_reducible refine fork_f (by assumption) ?_
    | refine fork_t rfl ?_
    | refine fork_f rfl ?_
    | with_reducible refine fork_i (fun h => ?_) (fun h => ?_)
    | with_reducible refine both_i ?_ ?_
    | ((with_reducible refine alike_i ?_); exact ⟨rfl, rfl, rfl⟩)
    | ((with_reducible refine fin_i ?_); (conv => whnf); refine ⟨rfl, ?_⟩)
    | refine ⟨of_decide_eq_true rfl, ?_⟩
    | refine ⟨fun _ => of_decide_eq_true rfl, ?_⟩
    | ((with_reducible refine ⟨?_, ?_⟩); (focus (intros; simp_all; done)))
    | ((with_reducible refine ⟨?_, ?_⟩); (focus (intros; omega)))) <;> (try (conv => whnf)))
  · have h := of_decide_eq_true h
    have hc : comp l = l := by
      cases l with
      | nil => rfl
      | cons x r =>
        cases r with
        | nil => rfl
        | cons y r => exfalso; simp only [List.length_cons] at h; omega
    all_goals ((with_reducible refine leaf_i ?_); (conv => whnf))
    repeat' ((with_reducible refine And.intro ?_ ?_) <;> (try (conv => whnf)))
    all_goals (try (first | with_reducible rfl | exact True.intro | rfl | exact id | exact fun h => h | exact fun _ => rfl))
    all_goals first | (rw [hc]) | exact (compZ_self hc).symm | trace_state
  · have h := of_decide_eq_false h
    refine kept [0] ?_
    (conv => whnf)
    refine looped (σ := Nat) (fun k => [(3, I k)]) (fun _ => [.row q tS 24 l]) (fun k => 1 ≤ k ∧ k ≤ l.length ∧ comp (l.take k) = l.take k) (fun k => l.length - k) 1 ⟨Nat.le_refl _, by omega, comp_one l (by omega)⟩ ?_ ?_
    · conv => whnf
      refine ⟨rfl, leaf_i ?_⟩
      repeat' ((with_reducible refine And.intro ?_ ?_) <;> (try (conv => whnf)))
      all_goals (try (first | with_reducible rfl | exact True.intro | rfl | exact id | exact fun h => h | exact fun _ => rfl))
    · rintro k ⟨hk1, hkl, hck⟩
      dsimp only at hk1 hkl hck ⊢
      conv => whnf
      repeat' ((first
        | with_reducible refine ⟨fun h => h, ?_⟩
        | with_reducible refine ⟨pk1, ?_⟩
        | with_reducible refine ⟨pk2, ?_⟩
        | with_reducible refine ⟨pk3, ?_⟩
        | with_reducible refine ⟨pk4, ?_⟩
        | with_reducible refine ⟨pk5, ?_⟩
        | with_reducible refine ⟨pk6, ?_⟩
        | with_reducible refine ⟨trivial, ?_⟩
        | with_reducible refine ⟨fun _ => trivial, ?_⟩
        | with_reducible refine fork_t (by assumption) ?_
        | with_reducible refine fork_f (by assumption) ?_
        | refine fork_t rfl ?_
        | refine fork_f rfl ?_
        | with_reducible refine fork_i (fun h => ?_) (fun h => ?_)
        | with_reducible refine both_i ?_ ?_
        | ((with_reducible refine alike_i ?_); exact ⟨rfl, rfl, rfl⟩)
        | ((with_reducible refine fin_i ?_); (conv => whnf); refine ⟨rfl, ?_⟩)
        | with_reducible refine ⟨⟨by rw [wrapD hk1 (by omega)]; omega, by rw [wrapD hk1 (by omega)]; omega⟩, ?_⟩
        | refine ⟨of_decide_eq_true rfl, ?_⟩
        | refine ⟨fun _ => of_decide_eq_true rfl, ?_⟩
        | ((with_reducible refine ⟨?_, ?_⟩); (focus (intros; simp_all; done)))
        | ((with_reducible refine ⟨?_, ?_⟩); (focus (intros; omega)))) <;> (try (conv => whnf)))
      · rename_i hk2
        have hk2 := lt_t' hk2
        have hp' : IntKind.i64.wrap ((k : Int) - 1) = ((k - 1 : Nat) : Int) := wrapD hk1 (by omega)
        rw [hp'] at h
        have h : eqS (getE tS l k) (getE tS l (k - 1)) = true := h
        have hc1 : comp (l.take (k + 1)) = l.take k := by rw [comp_take l k hk1 hk2, if_pos h, List.append_nil, hck]
        refine kept [0, 4] ?_
        (conv => whnf)
        refine looped (σ := Nat × Nat × List (El tS)) (fun x => [(5, I x.1), (3, I x.2.1)]) (fun x => [.row q tS 24 x.2.2]) (fun x => 1 ≤ x.1 ∧ k + x.1 ≤ l.length ∧ x.2.2.length = l.length ∧ x.2.1 = (comp (l.take (k + x.1))).length ∧ x.2.1 + 1 ≤ k + x.1 ∧ x.2.2.take x.2.1 = comp (l.take (k + x.1)) ∧ ∀ j, k + x.1 ≤ j + 1 → getE tS x.2.2 j = getE tS l j) (fun x => l.length - x.1) (1, k, l) ⟨Nat.le_refl _, by dsimp only; omega, rfl, by dsimp only; rw [hc1]; simp; omega, Nat.le_refl _, by dsimp only; rw [hc1], fun j _ => rfl⟩ ?_ ?_
        · conv => whnf
          refine ⟨rfl, leaf_i ?_⟩
          repeat' ((with_reducible refine And.intro ?_ ?_) <;> (try (conv => whnf)))
          all_goals (try (first | with_reducible rfl | exact True.intro | rfl | exact id | exact fun h => h | exact fun _ => rfl))
          all_goals trace_state
        · rintro ⟨k2, m, M⟩ ⟨h1, h2, h3, h4, h5, h6, h7⟩
          dsimp only at h1 h2 h3 h4 h5 h6 h7 ⊢
          conv => whnf
          repeat' ((first
            | with_reducible refine ⟨fun h => h, ?_⟩
            | with_reducible refine ⟨pk1, ?_⟩
            | with_reducible refine ⟨pk2, ?_⟩
            | with_reducible refine ⟨pk3, ?_⟩
            | with_reducible refine ⟨pk4, ?_⟩
            | with_reducible refine ⟨pk5, ?_⟩
            | with_reducible refine ⟨pk6, ?_⟩
            | with_reducible refine ⟨trivial, ?_⟩
            | with_reducible refine ⟨fun _ => trivial, ?_⟩
            | with_reducible refine fork_t (by assumption) ?_
            | with_reducible refine fork_f (by assumption) ?_
            | refine fork_t rfl ?_
            | refine fork_f rfl ?_
            | with_reducible refine fork_i (fun h => ?_) (fun h => ?_)
            | with_reducible refine both_i ?_ ?_
            | ((with_reducible refine alike_i ?_); exact ⟨rfl, rfl, rfl⟩)
            | ((with_reducible refine fin_i ?_); (conv => whnf); refine ⟨rfl, ?_⟩)
            | with_reducible refine ⟨⟨by rw [wrapD h1 (by omega)]; omega, by rw [wrapD h1 (by omega)]; omega⟩, ?_⟩
            | refine ⟨of_decide_eq_true rfl, ?_⟩
            | refine ⟨fun _ => of_decide_eq_true rfl, ?_⟩
            | ((with_reducible refine ⟨?_, ?_⟩); (focus (intros; simp_all; done)))
            | ((with_reducible refine ⟨?_, ?_⟩); (focus (intros; omega)))) <;> (try (conv => whnf)))
          · rename_i hb
            have hb := of_decide_eq_true hb
            have hb : k + k2 < l.length := by omega
            have hp2 : IntKind.i64.wrap ((k2 : Int) - 1) = ((k2 - 1 : Nat) : Int) := wrapD h1 (by omega)
            rw [hp2] at h
            have h : (!eqS (getE tS M (k + k2)) (getE tS M (k + (k2 - 1)))) = true := h
            rw [h7 _ (by omega), h7 _ (by omega), show k + (k2 - 1) = k + k2 - 1 by omega] at h
            have hne : ¬ eqS (getE tS l (k + k2)) (getE tS l (k + k2 - 1)) = true := by
              intro hh; rw [hh] at h; cases h
            have hct := comp_take l (k + k2) (by omega) hb
            rw [if_neg hne] at hct
            refine next_i (k2 + 1, m + 1, M.set m (getE tS M (k + k2))) ⟨by dsimp only; omega, by dsimp only; omega, by dsimp only; rw [List.length_set]; exact h3, ?_, by dsimp only; omega, ?_, ?_⟩ (by dsimp only; omega) rfl rfl ?_
            · dsimp only
              rw [← Nat.add_assoc, hct, List.length_append, ← h4]; rfl
            · dsimp only
              rw [← Nat.add_assoc, hct, ← h6, h7 _ (by omega)]
              rw [List.take_add_one, List.take_set_of_le (Nat.le_refl _), List.getElem?_set_self (by omega)]
              rfl
            · intro j hj
              dsimp only at hj ⊢
              rw [← h7 j (by omega)]
              unfold getE
              simp only [List.getD]
              rw [List.getElem?_set_ne (by omega)]
            conv => whnf
            refine ⟨rfl, leaf_i ?_⟩
            repeat' ((with_reducible refine And.intro ?_ ?_) <;> (try (conv => whnf)))
            all_goals (try (first | with_reducible rfl | exact True.intro | rfl | exact id | exact fun h => h | exact fun _ => rfl))
            all_goals first | exact wrapS' (by omega) | rfl | (intro hq; rw [hq]; rfl) | trace_state
          · rename_i hb
            have hb := of_decide_eq_true hb
            have hb : k + k2 < l.length := by omega
            have hp2 : IntKind.i64.wrap ((k2 : Int) - 1) = ((k2 - 1 : Nat) : Int) := wrapD h1 (by omega)
            rw [hp2] at h
            have h : (!eqS (getE tS M (k + k2)) (getE tS M (k + (k2 - 1)))) = false := h
            rw [h7 _ (by omega), h7 _ (by omega), show k + (k2 - 1) = k + k2 - 1 by omega] at h
            have hne : eqS (getE tS l (k + k2)) (getE tS l (k + k2 - 1)) = true := by
              simpa using h
            have hct := comp_take l (k + k2) (by omega) hb
            rw [if_pos hne, List.append_nil] at hct
            refine next_i (k2 + 1, m, M) ⟨by dsimp only; omega, by dsimp only; omega, h3, by dsimp only; rw [← Nat.add_assoc, hct]; exact h4, by dsimp only; omega, by dsimp only; rw [← Nat.add_assoc, hct]; exact h6, fun j hj => h7 j (by dsimp only at hj; omega)⟩ (by dsimp only; omega) rfl rfl ?_
            conv => whnf
            refine ⟨rfl, leaf_i ?_⟩
            repeat' ((with_reducible refine And.intro ?_ ?_) <;> (try (conv => whnf)))
            all_goals (try (first | with_reducible rfl | exact True.intro | rfl | exact id | exact fun h => h | exact fun _ => rfl))
            all_goals first | exact wrapS' (by omega) | rfl | trace_state
          · have hb := of_decide_eq_false h
            have hb : k + k2 = l.length := by omega
            rw [hb, List.take_length] at h4 h6
            all_goals ((with_reducible refine leaf_i ?_); (conv => whnf))
            repeat' ((with_reducible refine And.intro ?_ ?_) <;> (try (conv => whnf)))
            all_goals (try (first | with_reducible rfl | exact True.intro | rfl | exact id | exact fun h => h | exact fun _ => rfl))
            all_goals first | exact (compZ_clear h4 h6 h3).symm | exact compZ_clear h4 h6 h3 | exact h4 | exact h4.symm | (intro hq; rw [hq]; rfl) | trace_state
      · rename_i hk2
        have hk2 := lt_t' hk2
        have hp' : IntKind.i64.wrap ((k : Int) - 1) = ((k - 1 : Nat) : Int) := wrapD hk1 (by omega)
        rw [hp'] at h
        have h : eqS (getE tS l k) (getE tS l (k - 1)) = false := h
        refine next_i (k + 1) ⟨by omega, by omega, ?_⟩ (by omega) rfl rfl ?_
        · rw [comp_take l k hk1 hk2, if_neg (by rw [h]; simp), hck, List.take_succ_eq_append_getElem hk2]
          congr 2
          unfold getE; simp [List.getD, hk2]
        conv => whnf
        refine ⟨rfl, leaf_i ?_⟩
        repeat' ((with_reducible refine And.intro ?_ ?_) <;> (try (conv => whnf)))
        all_goals (try (first | with_reducible rfl | exact True.intro | rfl | exact id | exact fun h => h | exact fun _ => rfl))
        all_goals first | exact wrapS' (by omega) | rfl | trace_state
      · have hk2 := lt_f' h
        have hkl2 : k = l.length := by omega
        rw [hkl2, List.take_length] at hck
        all_goals ((with_reducible refine leaf_i ?_); (conv => whnf))
        repeat' ((with_reducible refine And.intro ?_ ?_) <;> (try (conv => whnf)))
        all_goals (try (first | with_reducible rfl | exact True.intro | rfl | exact id | exact fun h => h | exact fun _ => rfl))
        all_goals first | (rw [hck]) | exact (compZ_self hck).symm | trace_state
end Go.Proofs.Ythlkhjfilfdpiaa
