/- The statements of chapter 08 on the least: walks of SummaryLeast, SummaryCovers. -/
import Derived.Test.YthlkhjfilfdpiaaP08T
import Derived.Test.YthlkhjfilfdpiaaD08J
import Derived.Test.YthlkhjfilfdpiaaD08I
namespace Go.Proofs.Ythlkhjfilfdpiaa
set_option linter.unusedVariables false
set_option linter.unusedSimpArgs false
set_option maxRecDepth 100000
open Go Go.RowKit Go.Proofs.Ythlkhjfilfdpiaa.Eng

def cs11 : List (FuncId × Con) := (18, k_works.con) :: (25, k_rows.con) :: (26, k_least.con) :: (28, k_leastR.con) :: (27, k_sameS.con) :: (16, k_rS.con) :: (21, k_leS.con) :: []
theorem cs11_ok : AllFn Try.prog cs11 := ⟨c_works, c_rows, c_least, c_leastR, c_sameS, c_rS, c_leS, trivial⟩
def cs11v : List (FuncId × Con) := (18, k_works.con) :: (26, k_leastV.con) :: (16, k_rS.con) :: (21, k_leS.con) :: []
theorem cs11v_ok : AllFn Try.prog cs11v := ⟨c_works, c_leastV, c_rS, c_leS, trivial⟩
def k_lawLeast : Sig := .arg (shR tS) fun l => .done { pre := True, res := B true }
set_option maxHeartbeats 4000000 in
theorem c_lawLeast : FnOk Try.prog 8 k_lawLeast.con := by
  refine fnOkS mixed tys_ok cs11_ok Try.func8 rfl (by kernel_rfl) Try.ntmps8 _ (h := ?_)
  intro l
  refine ⟨rfl, fun hp => ?_⟩
  by_cases hl : l.length ≤ 30
  · have hcl : (comp (leastL l)).length ≤ 30 := by have := comp_len (leastL l); have := leastL_len l; omega
    have hd : decide ((l.length : Int) > 30) = false := decide_eq_false (by omega)
    have hq : ((List.drop 0 (compZ (leastL l))).take (comp (leastL l)).length).length ≤ 1000000 := by rw [compZ_take]; omega
    have hq2 : ((List.drop 0 (compZ (leastL l))).take (comp (leastL l)).length).length < 4611686018427387904 := by omega
    have hs : sameS ((List.drop 0 (compZ (leastL l))).take (comp (leastL l)).length) (leastR l) = true := by rw [compZ_take, least_same]; exact sameS_self _
    conv => whnf
    repeat' ((first
      | with_reducible refine ⟨fun h => h, ?_⟩
      | with_reducible refine ⟨pk1, ?_⟩
      | with_reducible refine ⟨pk2, ?_⟩
      | with_reducible refine ⟨pk3, ?_⟩
      | with_reducible refine ⟨pk4, ?_⟩
      | with_reducible refine ⟨pk5, ?_⟩
      | with_reducible refine ⟨pk6, ?_⟩
      | with_reducible refine ⟨trivial, ?_⟩
      | with_reducible refine ⟨fun _ => trivial, ?_⟩
      | with_reducible refine fork_t (by assumption) ?_
      | with_reducible refine fork_f (by assumption) ?_
      | refine fork_t rfl ?_
      | refine fork_f rfl ?_
      | with_reducible refine fork_i (fun h => ?_) (fun h => ?_)
      | with_reducible refine both_i ?_ ?_
      | ((with_reducible refine alike_i ?_); exact ⟨rfl, rfl, rfl⟩)
      | ((with_reducible refine fin_i ?_); (conv => whnf); refine ⟨rfl, ?_⟩)
      | refine ⟨show l.length ≤ 1000000 by omega, ?_⟩
      | refine ⟨hq, ?_⟩
      | refine ⟨hq2, ?_⟩
      | refine ⟨of_decide_eq_true rfl, ?_⟩
      | refine ⟨fun _ => of_decide_eq_true rfl, ?_⟩
      | ((with_reducible refine ⟨?_, ?_⟩); (focus (intros; simp_all; done)))
      | ((with_reducible refine ⟨?_, ?_⟩); (focus (intros; omega)))) <;> (try (conv => whnf)))
    · exfalso
      have h : (!sameS ((List.drop 0 (compZ (leastL l))).take (comp (leastL l)).length) (leastR l)) = true := h
      rw [hs] at h; cases h
    · refine kept [4] ?_
      (conv => whnf)
      refine looped (σ := Nat × List (El tS)) (fun x => [(5, I x.1)]) (fun x => [.row true tS 24 x.2]) (fun x => x.1 ≤ (comp (leastL l)).length) (fun x => (comp (leastL l)).length - x.1) (0, compZ (leastL l)) (Nat.zero_le _) ?_ ?_
      · conv => whnf
        refine ⟨rfl, leaf_i ?_⟩
        repeat' ((with_reducible refine And.intro ?_ ?_) <;> (try (conv => whnf)))
        all_goals (try (first | with_reducible rfl | exact True.intro | rfl | exact id | exact fun h => h | exact fun _ => rfl))
        all_goals first | rfl | trace_state
      · rintro ⟨j, M⟩ hj
        dsimp only at hj ⊢
        conv => whnf
        repeat' ((first
          | with_reducible refine ⟨fun h => h, ?_⟩
          | with_reducible refine ⟨pk1, ?_⟩
          | with_reducible refine ⟨pk2, ?_⟩
          | with_reducible refine ⟨pk3, ?_⟩
          | with_reducible refine ⟨pk4, ?_⟩
          | with_reducible refine ⟨pk5, ?_⟩
          | with_reducible refine ⟨pk6, ?_⟩
          | with_reducible refine ⟨trivial, ?_⟩
          | with_reducible refine ⟨fun _ => trivial, ?_⟩
          | with_reducible refine fork_t (by assumption) ?_
          | with_reducible refine fork_f (by assumption) ?_
          | refine fork_t rfl ?_
          | refine fork_f rfl ?_
          | with_reducible refine fork_i (fun h => ?_) (fun h => ?_)
          | with_reducible refine both_i ?_ ?_
          | ((with_reducible refine alike_i ?_); exact ⟨rfl, rfl, rfl⟩)
          | ((with_reducible refine fin_i ?_); (conv => whnf); refine ⟨rfl, ?_⟩)
          | refine ⟨show l.length ≤ 1000000 by omega, ?_⟩
          | refine ⟨show l.length < 4611686018427387904 by omega, ?_⟩
          | refine ⟨of_decide_eq_true rfl, ?_⟩
          | refine ⟨fun _ => of_decide_eq_true rfl, ?_⟩
          | ((with_reducible refine ⟨?_, ?_⟩); (focus (intros; simp_all; done)))
          | ((with_reducible refine ⟨?_, ?_⟩); (focus (intros; omega)))) <;> (try (conv => whnf)))
        · have hb := lt_t' (by assumption)
          refine next_i (j + 1, M.set (0 + j) (-9, (getE tS M (0 + j)).2)) hb (by dsimp only; omega) rfl rfl ?_
          conv => whnf
          refine ⟨rfl, leaf_i ?_⟩
          repeat' ((with_reducible refine And.intro ?_ ?_) <;> (try (conv => whnf)))
          all_goals (try (first | with_reducible rfl | exact True.intro | rfl | exact id | exact fun h => h | exact fun _ => rfl))
          all_goals first | exact wrapS' (by omega) | rfl | trace_state
        · have hss := sameS_self l
          all_goals ((with_reducible refine leaf_i ?_); (conv => whnf))
          repeat' ((with_reducible refine And.intro ?_ ?_) <;> (try (conv => whnf)))
          all_goals (try (first | with_reducible rfl | exact True.intro | rfl | exact id | exact fun h => h | exact fun _ => rfl))
          all_goals first | (rw [hss]; rfl) | trace_state
  · have hd : decide ((l.length : Int) > 30) = true := decide_eq_true (by omega)
    conv => whnf
    repeat' ((first
      | with_reducible refine ⟨fun h => h, ?_⟩
      | with_reducible refine ⟨pk1, ?_⟩
      | with_reducible refine ⟨pk2, ?_⟩
      | with_reducible refine ⟨pk3, ?_⟩
      | with_reducible refine ⟨pk4, ?_⟩
      | with_reducible refine ⟨pk5, ?_⟩
      | with_reducible refine ⟨pk6, ?_⟩
      | with_reducible refine ⟨trivial, ?_⟩
      | with_reducible refine ⟨fun _ => trivial, ?_⟩
      | with_reducible refine fork_t (by assumption) ?_
      | with_reducible refine fork_f (by assumption) ?_
      | refine fork_t rfl ?_
      | refine fork_f rfl ?_
      | with_reducible refine fork_i (fun h => ?_) (fun h => ?_)
      | with_reducible refine both_i ?_ ?_
      | ((with_reducible refine alike_i ?_); exact ⟨rfl, rfl, rfl⟩)
      | ((with_reducible refine fin_i ?_); (conv => whnf); refine ⟨rfl, ?_⟩)
      | refine ⟨of_decide_eq_true rfl, ?_⟩
      | refine ⟨fun _ => of_decide_eq_true rfl, ?_⟩
      | ((with_reducible refine ⟨?_, ?_⟩); (focus (intros; simp_all; done)))
      | ((with_reducible refine ⟨?_, ?_⟩); (focus (intros; omega)))) <;> (try (conv => whnf)))
    all_goals ((with_reducible refine leaf_i ?_); (conv => whnf))
    repeat' ((with_reducible refine And.intro ?_ ?_) <;> (try (conv => whnf)))
    all_goals (try (first | with_reducible rfl | exact True.intro | rfl | exact id | exact fun h => h | exact fun _ => rfl))
    all_goals first | rfl | trace_state

theorem compZ_get (L : List (El tS)) {k : Nat} (h : k < (comp L).length) : getE tS (compZ L) (0 + k) = getE tS (comp L) k := by
  rw [Nat.zero_add]; unfold compZ getE
  simp only [List.getD]
  rw [List.getElem?_append_left h]
/-- Of two of the least, at two places, none stands ahead of the other one. -/
theorem least_apart (l : List (El tS)) {i k : Nat} (hi : i < (comp (leastL l)).length) (hk : k < (comp (leastL l)).length) (hne : i ≠ k) : leS (toS (getE tS (comp (leastL l)) i)) (toS (getE tS (comp (leastL l)) k)) = false := by
  have hs := comp_strict _ (srtS_sorted (l.filter (staysS l)))
  have hs : (comp (leastL l)).Pairwise (fun x y => ltS x y = true) := hs
  have h1 := (comp_least_mem l _).1 (get_mem hi)
  have h2 := (comp_least_mem l _).1 (get_mem hk)
  refine h2.2.2 _ h1.1 fun e => ?_
  have hg : ∀ {j : Nat} (h : j < (comp (leastL l)).length), getE tS (comp (leastL l)) j = (comp (leastL l))[j] := fun {j} h => by
    have := getE_ok h; rw [List.getElem?_eq_getElem h] at this; injection this with this; exact this.symm
  rw [hg hi, hg hk] at e
  rcases Nat.lt_or_gt_of_ne hne with hlt | hlt
  · have := List.pairwise_iff_getElem.1 hs i k hi hk hlt
    rw [e, ltS_irr] at this; cases this
  · have := List.pairwise_iff_getElem.1 hs k i hk hi hlt
    rw [e, ltS_irr] at this; cases this
theorem covered (l : List (El tS)) {i : Nat} (hi : i < l.length) (hok : (toS (getE tS l i)).ok = true) : ∃ j, j < (comp (leastL l)).length ∧ leS (toS (getE tS (comp (leastL l)) j)) (toS (getE tS l i)) = true := by
  obtain ⟨m, h1, h2, h3⟩ := min_below l _ _ (get_mem hi) hok (Nat.le_refl _)
  obtain ⟨j, hj⟩ := List.getElem?_of_mem ((comp_least_mem l m).2 ⟨h1, h2⟩)
  have hjl := (List.getElem?_eq_some_iff.1 hj).1
  have : getE tS (comp (leastL l)) j = m := by have := getE_ok hjl; rw [hj] at this; injection this with this; exact this.symm
  exact ⟨j, hjl, by rw [this]; exact h3⟩
def k_lawCovers : Sig := .arg (shR tS) fun l => .done { pre := True, res := B true }
set_option maxHeartbeats 8000000 in
theorem c_lawCovers : FnOk Try.prog 9 k_lawCovers.con := by
  refine fnOkS mixed tys_ok cs11v_ok Try.func9 rfl (by kernel_rfl) Try.ntmps9 _ (h := ?_)
  intro l
  refine ⟨rfl, fun hp => ?_⟩
  by_cases hl : l.length ≤ 30
  · have hcl : (comp (leastL l)).length ≤ 30 := by have := comp_len (leastL l); have := leastL_len l; omega
    have hd : decide ((l.length : Int) > 30) = false := decide_eq_false (by omega)
    have hq : (comp (leastL l)).length ≤ 1000000 := by omega
    conv => whnf
    repeat' ((first
      | with_reducible refine ⟨fun h => h, ?_⟩
      | with_reducible refine ⟨pk1, ?_⟩
      | with_reducible refine ⟨pk2, ?_⟩
      | with_reducible refine ⟨pk3, ?_⟩
      | with_reducible refine ⟨pk4, ?_⟩
      | with_reducible refine ⟨pk5, ?_⟩
      | with_reducible refine ⟨pk6, ?_⟩
      | with_reducible refine ⟨trivial, ?_⟩
      | with_reducible refine ⟨fun _ => trivial, ?_⟩
      | with_reducible refine fork_t (by assumption) ?_
      | with_reducible refine fork_f (by assumption) ?_
      | refine fork_t rfl ?_
      | refine fork_f rfl ?_
      | with_reducible refine fork_i (fun h => ?_) (fun h => ?_)
      | with_reducible refine both_i ?_ ?_
      | ((with_reducible refine alike_i ?_); exact ⟨rfl, rfl, rfl⟩)
      | ((with_reducible refine fin_i ?_); (conv => whnf); refine ⟨rfl, ?_⟩)
      | refine ⟨show l.length ≤ 1000000 by omega, ?_⟩
      | refine ⟨hq, ?_⟩
      | refine ⟨of_decide_eq_true rfl, ?_⟩
      | refine ⟨fun _ => of_decide_eq_true rfl, ?_⟩
      | ((with_reducible refine ⟨?_, ?_⟩); (focus (intros; simp_all; done)))
      | ((with_reducible refine ⟨?_, ?_⟩); (focus (intros; omega)))) <;> (try (conv => whnf)))
    refine looped (σ := Nat) (fun x => [(4, I x)]) (fun _ => []) (fun x => x ≤ l.length) (fun x => l.length - x) 0 (Nat.zero_le _) ?_ ?_
    · conv => whnf
      refine ⟨rfl, leaf_i ?_⟩
      repeat' ((with_reducible refine And.intro ?_ ?_) <;> (try (conv => whnf)))
      all_goals (try (first | with_reducible rfl | exact True.intro | rfl | exact id | exact fun h => h | exact fun _ => rfl))
      all_goals first | rfl | trace_state
    · rintro i hi
      dsimp only at hi ⊢
      conv => whnf
      repeat' ((first
        | with_reducible refine ⟨fun h => h, ?_⟩
        | with_reducible refine ⟨pk1, ?_⟩
        | with_reducible refine ⟨pk2, ?_⟩
        | with_reducible refine ⟨pk3, ?_⟩
        | with_reducible refine ⟨pk4, ?_⟩
        | with_reducible refine ⟨pk5, ?_⟩
        | with_reducible refine ⟨pk6, ?_⟩
        | with_reducible refine ⟨trivial, ?_⟩
        | with_reducible refine ⟨fun _ => trivial, ?_⟩
        | with_reducible refine fork_t (by assumption) ?_
        | with_reducible refine fork_f (by assumption) ?_
        | refine fork_t rfl ?_
        | refine fork_f rfl ?_
        | with_reducible refine fork_i (fun h => ?_) (fun h => ?_)
        | with_reducible refine both_i ?_ ?_
        | ((with_reducible refine alike_i ?_); exact ⟨rfl, rfl, rfl⟩)
        | ((with_reducible refine fin_i ?_); (conv => whnf); refine ⟨rfl, ?_⟩)
        | refine ⟨hq, ?_⟩
        | refine ⟨of_decide_eq_true rfl, ?_⟩
        | refine ⟨fun _ => of_decide_eq_true rfl, ?_⟩
        | ((with_reducible refine ⟨?_, ?_⟩); (focus (intros; simp_all; done)))
        | ((with_reducible refine ⟨?_, ?_⟩); (focus (intros; omega)))) <;> (try (conv => whnf)))
      · have hb := lt_t' h
        refine looped (σ := Nat × Bool) (fun x => [(6, I x.1), (5, B x.2)]) (fun _ => []) (fun x => x.1 ≤ (comp (leastL l)).length ∧ (x.2 = true ∨ ∃ j, x.1 ≤ j ∧ j < (comp (leastL l)).length ∧ leS (toS (getE tS (comp (leastL l)) j)) (toS (getE tS l i)) = true)) (fun x => (comp (leastL l)).length - x.1) (0, !(toS (getE tS l i)).ok) ⟨Nat.zero_le _, ?_⟩ ?_ ?_
        · cases hok : (toS (getE tS l i)).ok with
          | false => exact .inl rfl
          | true =>
            obtain ⟨j, h1, h2⟩ := covered l hb hok
            exact .inr ⟨j, Nat.zero_le _, h1, h2⟩
        · conv => whnf
          refine ⟨rfl, leaf_i ?_⟩
          repeat' ((with_reducible refine And.intro ?_ ?_) <;> (try (conv => whnf)))
          all_goals (try (first | with_reducible rfl | exact True.intro | rfl | exact id | exact fun h => h | exact fun _ => rfl))
          all_goals first | rfl | trace_state
        · rintro ⟨k, st⟩ ⟨hk, hs⟩
          dsimp only at hk hs ⊢
          conv => whnf
          repeat' ((first
            | with_reducible refine ⟨fun h => h, ?_⟩
            | with_reducible refine ⟨pk1, ?_⟩
            | with_reducible refine ⟨pk2, ?_⟩
            | with_reducible refine ⟨pk3, ?_⟩
            | with_reducible refine ⟨pk4, ?_⟩
            | with_reducible refine ⟨pk5, ?_⟩
            | with_reducible refine ⟨pk6, ?_⟩
            | with_reducible refine ⟨trivial, ?_⟩
            | with_reducible refine ⟨fun _ => trivial, ?_⟩
            | with_reducible refine fork_t (by assumption) ?_
            | with_reducible refine fork_f (by assumption) ?_
            | refine fork_t rfl ?_
            | refine fork_f rfl ?_
            | with_reducible refine fork_i (fun h => ?_) (fun h => ?_)
            | with_reducible refine both_i ?_ ?_
            | ((with_reducible refine alike_i ?_); exact ⟨rfl, rfl, rfl⟩)
            | ((with_reducible refine fin_i ?_); (conv => whnf); refine ⟨rfl, ?_⟩)
            | refine ⟨of_decide_eq_true rfl, ?_⟩
            | refine ⟨fun _ => of_decide_eq_true rfl, ?_⟩
            | ((with_reducible refine ⟨?_, ?_⟩); (focus (intros; simp_all; done)))
            | ((with_reducible refine ⟨?_, ?_⟩); (focus (intros; omega)))) <;> (try (conv => whnf)))
          · have hb2 := lt_t' (by assumption)
            refine next_i (k + 1, bif st then true else leS (toS (getE tS (comp (leastL l)) k)) (toS (getE tS l i))) ⟨hb2, ?_⟩ (by dsimp only; omega) rfl rfl ?_
            · dsimp only
              rcases hs with hs | ⟨j, h1, h2, h3⟩
              · exact .inl (by rw [hs]; rfl)
              · by_cases hj : j = k
                · subst hj; exact .inl (by rw [h3]; cases st <;> rfl)
                · exact .inr ⟨j, by omega, h2, h3⟩
            conv => whnf
            refine ⟨rfl, leaf_i ?_⟩
            repeat' ((with_reducible refine And.intro ?_ ?_) <;> (try (conv => whnf)))
            all_goals (try (first | with_reducible rfl | exact True.intro | rfl | exact id | exact fun h => h | exact fun _ => rfl))
            all_goals first | exact wrapS' (by omega) | rfl | trace_state
          · exfalso
            have hb2 := lt_f' (by assumption)
            rcases hs with hs | ⟨j, h1, h2, h3⟩
            · rw [hs] at h; cases h
            · omega
          · refine next_i (i + 1) (by omega) (by omega) rfl rfl ?_
            conv => whnf
            refine ⟨rfl, leaf_i ?_⟩
            repeat' ((with_reducible refine And.intro ?_ ?_) <;> (try (conv => whnf)))
            all_goals (try (first | with_reducible rfl | exact True.intro | rfl | exact id | exact fun h => h | exact fun _ => rfl))
            all_goals first | exact wrapS' (by omega) | rfl | trace_state
      · refine looped (σ := Nat) (fun x => [(7, I x)]) (fun _ => []) (fun x => x ≤ (comp (leastL l)).length) (fun x => (comp (leastL l)).length - x) 0 (Nat.zero_le _) ?_ ?_
        · conv => whnf
          refine ⟨rfl, leaf_i ?_⟩
          repeat' ((with_reducible refine And.intro ?_ ?_) <;> (try (conv => whnf)))
          all_goals (try (first | with_reducible rfl | exact True.intro | rfl | exact id | exact fun h => h | exact fun _ => rfl))
          all_goals first | rfl | trace_state
        · rintro i2 hi2
          dsimp only at hi2 ⊢
          conv => whnf
          repeat' ((first
            | with_reducible refine ⟨fun h => h, ?_⟩
            | with_reducible refine ⟨pk1, ?_⟩
            | with_reducible refine ⟨pk2, ?_⟩
            | with_reducible refine ⟨pk3, ?_⟩
            | with_reducible refine ⟨pk4, ?_⟩
            | with_reducible refine ⟨pk5, ?_⟩
            | with_reducible refine ⟨pk6, ?_⟩
            | with_reducible refine ⟨trivial, ?_⟩
            | with_reducible refine ⟨fun _ => trivial, ?_⟩
            | with_reducible refine fork_t (by assumption) ?_
            | with_reducible refine fork_f (by assumption) ?_
            | refine fork_t rfl ?_
            | refine fork_f rfl ?_
            | with_reducible refine fork_i (fun h => ?_) (fun h => ?_)
            | with_reducible refine both_i ?_ ?_
            | ((with_reducible refine alike_i ?_); exact ⟨rfl, rfl, rfl⟩)
            | ((with_reducible refine fin_i ?_); (conv => whnf); refine ⟨rfl, ?_⟩)
            | refine ⟨hq, ?_⟩
            | refine ⟨of_decide_eq_true rfl, ?_⟩
            | refine ⟨fun _ => of_decide_eq_true rfl, ?_⟩
            | ((with_reducible refine ⟨?_, ?_⟩); (focus (intros; simp_all; done)))
            | ((with_reducible refine ⟨?_, ?_⟩); (focus (intros; omega)))) <;> (try (conv => whnf)))
          · have hb := lt_t' (by assumption)
            refine looped (σ := Nat) (fun x => [(8, I x)]) (fun _ => []) (fun x => x ≤ (comp (leastL l)).length) (fun x => (comp (leastL l)).length - x) 0 (Nat.zero_le _) ?_ ?_
            · conv => whnf
              refine ⟨rfl, leaf_i ?_⟩
              repeat' ((with_reducible refine And.intro ?_ ?_) <;> (try (conv => whnf)))
              all_goals (try (first | with_reducible rfl | exact True.intro | rfl | exact id | exact fun h => h | exact fun _ => rfl))
              all_goals first | rfl | trace_state
            · rintro k hk
              dsimp only at hk ⊢
              conv => whnf
              repeat' ((first
                | with_reducible refine ⟨fun h => h, ?_⟩
                | with_reducible refine ⟨pk1, ?_⟩
                | with_reducible refine ⟨pk2, ?_⟩
                | with_reducible refine ⟨pk3, ?_⟩
                | with_reducible refine ⟨pk4, ?_⟩
                | with_reducible refine ⟨pk5, ?_⟩
                | with_reducible refine ⟨pk6, ?_⟩
                | with_reducible refine ⟨trivial, ?_⟩
                | with_reducible refine ⟨fun _ => trivial, ?_⟩
                | with_reducible refine fork_t (by assumption) ?_
                | with_reducible refine fork_f (by assumption) ?_
                | refine fork_t rfl ?_
                | refine fork_f rfl ?_
                | with_reducible refine fork_i (fun h => ?_) (fun h => ?_)
                | with_reducible refine both_i ?_ ?_
                | ((with_reducible refine alike_i ?_); exact ⟨rfl, rfl, rfl⟩)
                | ((with_reducible refine fin_i ?_); (conv => whnf); refine ⟨rfl, ?_⟩)
                | refine ⟨of_decide_eq_true rfl, ?_⟩
                | refine ⟨fun _ => of_decide_eq_true rfl, ?_⟩
                | ((with_reducible refine ⟨?_, ?_⟩); (focus (intros; simp_all; done)))
                | ((with_reducible refine ⟨?_, ?_⟩); (focus (intros; omega)))) <;> (try (conv => whnf)))
              · exfalso
                have hb2 : k < (comp (leastL l)).length := lt_t' (by assumption)
                have h : (bif (i2 : Int) != k then leS (toS (getE tS (comp (leastL l)) i2)) (toS (getE tS (comp (leastL l)) k)) else false) = true := h
                rw [Bool.cond_false_right, Bool.and_eq_true] at h
                have hne : i2 ≠ k := by
                  intro e; subst e; simp at h
                rw [least_apart l hb hb2 hne] at h
                exact Bool.noConfusion h.2
              · have hb2 := lt_t' (by assumption)
                refine next_i (k + 1) (by omega) (by omega) rfl rfl ?_
                conv => whnf
                refine ⟨rfl, leaf_i ?_⟩
                repeat' ((with_reducible refine And.intro ?_ ?_) <;> (try (conv => whnf)))
                all_goals (try (first | with_reducible rfl | exact True.intro | rfl | exact id | exact fun h => h | exact fun _ => rfl))
                all_goals first | exact wrapS' (by omega) | rfl | trace_state
              · refine next_i (i2 + 1) (by omega) (by omega) rfl rfl ?_
                conv => whnf
                refine ⟨rfl, leaf_i ?_⟩
                repeat' ((with_reducible refine And.intro ?_ ?_) <;> (try (conv => whnf)))
                all_goals (try (first | with_reducible rfl | exact True.intro | rfl | exact id | exact fun h => h | exact fun _ => rfl))
                all_goals first | exact wrapS' (by omega) | rfl | trace_state
          · exfalso
            have h : ((comp (leastL (comp (leastL l)))).length : Int) != (comp (leastL l)).length := h
            rw [least_again] at h; simp at h
          · refine looped (σ := Nat) (fun x => [(10, I x)]) (fun _ => []) (fun x => x ≤ (comp (leastL l)).length) (fun x => (comp (leastL l)).length - x) 0 (Nat.zero_le _) ?_ ?_
            · conv => whnf
              refine ⟨rfl, leaf_i ?_⟩
              repeat' ((with_reducible refine And.intro ?_ ?_) <;> (try (conv => whnf)))
              all_goals (try (first | with_reducible rfl | exact True.intro | rfl | exact id | exact fun h => h | exact fun _ => rfl))
            · rintro k hk
              dsimp only at hk ⊢
              have hag := least_again l
              conv => whnf
              repeat' ((first
                | with_reducible refine ⟨fun h => h, ?_⟩
                | with_reducible refine ⟨pk1, ?_⟩
                | with_reducible refine ⟨pk2, ?_⟩
                | with_reducible refine ⟨pk3, ?_⟩
                | with_reducible refine ⟨pk4, ?_⟩
                | with_reducible refine ⟨pk5, ?_⟩
                | with_reducible refine ⟨pk6, ?_⟩
                | with_reducible refine ⟨trivial, ?_⟩
                | with_reducible refine ⟨fun _ => trivial, ?_⟩
                | with_reducible refine fork_t (by assumption) ?_
                | with_reducible refine fork_f (by assumption) ?_
                | refine fork_t rfl ?_
                | refine fork_f rfl ?_
                | with_reducible refine fork_i (fun h => ?_) (fun h => ?_)
                | with_reducible refine both_i ?_ ?_
                | ((with_reducible refine alike_i ?_); exact ⟨rfl, rfl, rfl⟩)
                | ((with_reducible refine fin_i ?_); (conv => whnf); refine ⟨rfl, ?_⟩)
                | refine ⟨by rw [hag]; omega, ?_⟩
                | refine ⟨of_decide_eq_true rfl, ?_⟩
                | refine ⟨fun _ => of_decide_eq_true rfl, ?_⟩
                | ((with_reducible refine ⟨?_, ?_⟩); (focus (intros; simp_all; done)))
                | ((with_reducible refine ⟨?_, ?_⟩); (focus (intros; omega)))) <;> (try (conv => whnf)))
              · exfalso
                have h : (!eqS (getE tS (comp (leastL (comp (leastL l)))) k) (getE tS (comp (leastL l)) k)) = true := h
                rw [hag, (eqS_iff _ _).2 rfl] at h; cases h
              · have hb2 : k < (comp (leastL (comp (leastL l)))).length := lt_t' (by assumption)
                rw [hag] at hb2
                refine next_i (k + 1) hb2 (by omega) rfl rfl ?_
                conv => whnf
                refine ⟨rfl, leaf_i ?_⟩
                repeat' ((with_reducible refine And.intro ?_ ?_) <;> (try (conv => whnf)))
                all_goals (try (first | with_reducible rfl | exact True.intro | rfl | exact id | exact fun h => h | exact fun _ => rfl))
                all_goals first | exact wrapS' (by omega) | rfl | trace_state
              · all_goals ((with_reducible refine leaf_i ?_); (conv => whnf))
                repeat' ((with_reducible refine And.intro ?_ ?_) <;> (try (conv => whnf)))
                all_goals (try (first | with_reducible rfl | exact True.intro | rfl | exact id | exact fun h => h | exact fun _ => rfl))
                all_goals first | rfl | trace_state
  · have hd : decide ((l.length : Int) > 30) = true := decide_eq_true (by omega)
    conv => whnf
    repeat' ((first
      | with_reducible refine ⟨fun h => h, ?_⟩
      | with_reducible refine ⟨pk1, ?_⟩
      | with_reducible refine ⟨pk2, ?_⟩
      | with_reducible refine ⟨pk3, ?_⟩
      | with_reducible refine ⟨pk4, ?_⟩
      | with_reducible refine ⟨pk5, ?_⟩
      | with_reducible refine ⟨pk6, ?_⟩
      | with_reducible refine ⟨trivial, ?_⟩
      | with_reducible refine ⟨fun _ => trivial, ?_⟩
      | with_reducible refine fork_t (by assumption) ?_
      | with_reducible refine fork_f (by assumption) ?_
      | refine fork_t rfl ?_
      | refine fork_f rfl ?_
      | with_reducible refine fork_i (fun h => ?_) (fun h => ?_)
      | with_reducible refine both_i ?_ ?_
      | ((with_reducible refine alike_i ?_); exact ⟨rfl, rfl, rfl⟩)
      | ((with_reducible refine fin_i ?_); (conv => whnf); refine ⟨rfl, ?_⟩)
      | refine ⟨of_decide_eq_true rfl, ?_⟩
      | refine ⟨fun _ => of_decide_eq_true rfl, ?_⟩
      | ((with_reducible refine ⟨?_, ?_⟩); (focus (intros; simp_all; done)))
      | ((with_reducible refine ⟨?_, ?_⟩); (focus (intros; omega)))) <;> (try (conv => whnf)))
    all_goals ((with_reducible refine leaf_i ?_); (conv => whnf))
    repeat' ((with_reducible refine And.intro ?_ ?_) <;> (try (conv => whnf)))
    all_goals (try (first | with_reducible rfl | exact True.intro | rfl | exact id | exact fun h => h | exact fun _ => rfl))
    all_goals first | rfl | trace_state
end Go.Proofs.Ythlkhjfilfdpiaa
