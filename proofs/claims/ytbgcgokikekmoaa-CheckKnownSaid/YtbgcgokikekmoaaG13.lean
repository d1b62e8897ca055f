/- Parts of the proof, joined: no conditions of their own. -/
import Derived.Test.YtbgcgokikekmoaaG11
import Derived.Test.YtbgcgokikekmoaaG12
/- Layer 10: the statement CheckKnown. -/
namespace Go.Proofs.Ytbgcgokikekmoaa
set_option linter.unusedVariables false
set_option linter.unusedSimpArgs false
set_option maxRecDepth 100000
open Go Go.RowKit Go.Proofs.Ytbgcgokikekmoaa.Eng

abbrev tGr : Ty := .sl tN .nil
def gsK : List (El tGr) := [(gRace, ()), (gMeeting, ()), (gStraight, ()), (gDeeper, ()), ([], ()), ([zeroE tN], ())]
theorem gsK_few : (gsK.all fun x => fewB x.1) = true := by kernel_rfl
theorem gsK_at {i : Nat} (h : i < 6) : (getE tGr gsK i).1.length ≤ 1000 ∧ ∀ x : Nd, x ∈ (getE tGr gsK i).1 → (Nd.ins x).length ≤ 1000 := by
  have := List.all_eq_true.1 gsK_few _ (getE_mem gsK h)
  simpa only [fewB, Bool.and_eq_true, decide_eq_true_eq, List.all_eq_true] using this
attribute [local irreducible] gsK
def k_lknown : Sig := .done { pre := True, res := B true }
set_option maxHeartbeats 16000000 in
theorem c_lknown : FnOk Try.prog 8 k_lknown.con := by
  refine fnOkS mixed tys_ok (cs := [(20, k_race.con), (21, k_meeting.con), (22, k_straight.con), (23, k_deeper.con), (11, k_own2.con), (10, k_works.con), (3, k_lnode.con), (4, k_lall.con), (5, k_lorder.con)]) ⟨c_race, c_meeting, c_straight, c_deeper, c_own2, c_works, c_lnode, c_lall, c_lorder, trivial⟩ Try.func8 rfl (by kernel_rfl) Try.ntmps8 _ (h := ?_)
  refine ⟨rfl, fun _ => ?_⟩
  conv => whnf
  repeat' ((first
    | with_reducible refine ⟨fun h => h, ?_⟩
    | with_reducible refine ⟨pk1, ?_⟩
    | with_reducible refine ⟨pk2, ?_⟩
    | with_reducible refine ⟨pk3, ?_⟩
    | with_reducible refine ⟨pk4, ?_⟩
    | with_reducible refine ⟨pk5, ?_⟩
    | with_reducible refine ⟨pk6, ?_⟩
    | with_reducible refine ⟨trivial, ?_⟩
    | with_reducible refine ⟨fun _ => trivial, ?_⟩
    | with_reducible refine ⟨rfl, ?_⟩
    | with_reducible refine every_i (fun hd => ?_)
    | with_reducible refine fork_t (by assumption) ?_
    | with_reducible refine fork_f (by assumption) ?_
    | refine fork_t rfl ?_
    | refine fork_f rfl ?_
    | with_reducible refine fork_i (fun h => ?_) (fun h => ?_)
    | with_reducible refine both_i ?_ ?_
    | ((with_reducible refine alike_i ?_); exact ⟨rfl, rfl, rfl⟩)
    | ((with_reducible refine fin_i ?_); (conv => whnf); refine ⟨rfl, ?_⟩)
    | refine ⟨of_decide_eq_true rfl, ?_⟩
    | refine ⟨fun _ => of_decide_eq_true rfl, ?_⟩
    | ((with_reducible refine ⟨?_, ?_⟩); (focus (intros; simp_all; done)))
    | ((with_reducible refine ⟨?_, ?_⟩); (focus (intros; omega)))) <;> (try (conv => whnf)))
  refine only [17, 18] ?_
  (conv => whnf)
  refine looped (σ := Nat) (fun i => [(19, I i)]) (fun _ => [.fz true tN [], .fz true tN [zeroE tN], .row true tGr 23 gsK]) (fun i => i ≤ 6) (fun i => 6 - i) 0 (Nat.zero_le _) ?_ ?_
  · conv => whnf
    refine ⟨rfl, leaf_i ?_⟩
    repeat' ((with_reducible refine And.intro ?_ ?_) <;> (try (conv => whnf)))
    all_goals (try (first | with_reducible rfl | exact True.intro | rfl | exact id | exact fun h => h | exact fun _ => rfl))
    all_goals (first | (unfold gsK; rfl) | trace_state)
  · rintro i hi
    dsimp only at hi ⊢
    have h6 : decide ((i : Int) < 6) = true → 0 ≤ (i : Int) ∧ (i : Int) < 6 := fun h => by have := of_decide_eq_true h; omega
    conv => whnf
    repeat' ((first
      | with_reducible refine ⟨fun h => h, ?_⟩
      | with_reducible refine ⟨pk1, ?_⟩
      | with_reducible refine ⟨pk2, ?_⟩
      | with_reducible refine ⟨pk3, ?_⟩
      | with_reducible refine ⟨pk4, ?_⟩
      | with_reducible refine ⟨pk5, ?_⟩
      | with_reducible refine ⟨pk6, ?_⟩
      | with_reducible refine ⟨trivial, ?_⟩
      | with_reducible refine ⟨fun _ => trivial, ?_⟩
      | with_reducible refine ⟨rfl, ?_⟩
      | with_reducible refine every_i (fun hd => ?_)
      | with_reducible refine fork_t (by assumption) ?_
      | with_reducible refine fork_f (by assumption) ?_
      | refine fork_t rfl ?_
      | refine fork_f rfl ?_
      | with_reducible refine fork_i (fun h => ?_) (fun h => ?_)
      | with_reducible refine both_i ?_ ?_
      | ((with_reducible refine alike_i ?_); exact ⟨rfl, rfl, rfl⟩)
      | ((with_reducible refine fin_i ?_); (conv => whnf); refine ⟨rfl, ?_⟩)
      | refine ⟨h6 (by assumption), ?_⟩
      | refine ⟨of_decide_eq_true rfl, ?_⟩
      | refine ⟨fun _ => of_decide_eq_true rfl, ?_⟩
      | ((with_reducible refine ⟨?_, ?_⟩); (focus (intros; simp_all; done)))
      | ((with_reducible refine ⟨?_, ?_⟩); (focus (intros; omega)))) <;> (try (conv => whnf)))
    · have hi6 : i < 6 := by have := of_decide_eq_true (by assumption : decide ((i : Int) < 6) = true); omega
      obtain ⟨hl1, hl2⟩ := gsK_at hi6
      refine only [2, 17, 18, 19] ?_
      (conv => whnf)
      refine looped (σ := Nat) (fun j => [(3, I j)]) (fun _ => [.fz true tN [], .fz true tN [zeroE tN], .row true tGr 23 gsK]) (fun j => j ≤ (getE tGr gsK i).1.length) (fun j => (getE tGr gsK i).1.length - j) 0 (Nat.zero_le _) ?_ ?_
      · conv => whnf
        refine ⟨rfl, leaf_i ?_⟩
        repeat' ((with_reducible refine And.intro ?_ ?_) <;> (try (conv => whnf)))
        all_goals (try (first | with_reducible rfl | exact True.intro | rfl | exact id | exact fun h => h | exact fun _ => rfl))
        all_goals (first | rfl | trace_state)
      · rintro j hj
        dsimp only at hj ⊢
        conv => whnf
        repeat' ((first
          | with_reducible refine ⟨fun h => h, ?_⟩
          | with_reducible refine ⟨pk1, ?_⟩
          | with_reducible refine ⟨pk2, ?_⟩
          | with_reducible refine ⟨pk3, ?_⟩
          | with_reducible refine ⟨pk4, ?_⟩
          | with_reducible refine ⟨pk5, ?_⟩
          | with_reducible refine ⟨pk6, ?_⟩
          | with_reducible refine ⟨trivial, ?_⟩
          | with_reducible refine ⟨fun _ => trivial, ?_⟩
          | with_reducible refine ⟨rfl, ?_⟩
          | with_reducible refine every_i (fun hd => ?_)
          | with_reducible refine fork_t (by assumption) ?_
          | with_reducible refine fork_f (by assumption) ?_
          | refine fork_t rfl ?_
          | refine fork_f rfl ?_
          | with_reducible refine fork_i (fun h => ?_) (fun h => ?_)
          | with_reducible refine both_i ?_ ?_
          | ((with_reducible refine alike_i ?_); exact ⟨rfl, rfl, rfl⟩)
          | ((with_reducible refine fin_i ?_); (conv => whnf); refine ⟨rfl, ?_⟩)
          | refine ⟨of_decide_eq_true rfl, ?_⟩
          | refine ⟨fun _ => of_decide_eq_true rfl, ?_⟩
          | ((with_reducible refine ⟨?_, ?_⟩); (focus (intros; simp_all; done)))
          | ((with_reducible refine ⟨?_, ?_⟩); (focus (intros; omega)))) <;> (try (conv => whnf)))
        · have hj' : j < (getE tGr gsK i).1.length := lt_t (by assumption)
          refine only [2, 3, 4, 17, 18, 19] ?_
          (conv => whnf)
          refine looped (σ := Nat) (fun c => [(4, I c)]) (fun _ => [.fz true tN [], .fz true tN [zeroE tN], .row true tGr 23 gsK]) (fun c => c ≤ 41) (fun c => 41 - c) (j % 2) (by omega) ?_ ?_
          · conv => whnf
            refine ⟨rfl, leaf_i ?_⟩
            repeat' ((with_reducible refine And.intro ?_ ?_) <;> (try (conv => whnf)))
            all_goals (try (first | with_reducible rfl | exact True.intro | rfl | exact id | exact fun h => h | exact fun _ => rfl))
            all_goals (first | rfl | trace_state)
          · rintro c hc
            dsimp only at hc ⊢
            have hown : (getE tGr gsK i).1.length ≤ 1000000000 ∧ ∀ x : Nd, x ∈ (getE tGr gsK i).1 → (Nd.ins x).length ≤ 1000000000 := ⟨by omega, fun x hx => Nat.le_trans (hl2 x hx) (by decide)⟩
            have hji : 0 ≤ (j : Int) ∧ (j : Int) < ((getE tGr gsK i).1.length : Int) := by omega
            have hct : (c : Int).tmod 10 = ((c % 10 : Nat) : Int) := rfl
            have hc10 : 0 ≤ (c : Int).tmod 10 ∧ (c : Int).tmod 10 < 10 := by rw [hct]; omega
            conv => whnf
            repeat' ((first
              | with_reducible refine ⟨fun h => h, ?_⟩
              | with_reducible refine ⟨pk1, ?_⟩
              | with_reducible refine ⟨pk2, ?_⟩
              | with_reducible refine ⟨pk3, ?_⟩
              | with_reducible refine ⟨pk4, ?_⟩
              | with_reducible refine ⟨pk5, ?_⟩
              | with_reducible refine ⟨pk6, ?_⟩
              | with_reducible refine ⟨trivial, ?_⟩
              | with_reducible refine ⟨fun _ => trivial, ?_⟩
              | with_reducible refine ⟨rfl, ?_⟩
              | with_reducible refine every_i (fun hd => ?_)
              | with_reducible refine fork_t (by assumption) ?_
              | with_reducible refine fork_f (by assumption) ?_
              | refine fork_t rfl ?_
              | refine fork_f rfl ?_
              | with_reducible refine fork_i (fun h => ?_) (fun h => ?_)
              | with_reducible refine both_i ?_ ?_
              | ((with_reducible refine alike_i ?_); exact ⟨rfl, rfl, rfl⟩)
              | ((with_reducible refine fin_i ?_); (conv => whnf); refine ⟨rfl, ?_⟩)
              | refine ⟨hown, ?_⟩
              | refine ⟨hji, ?_⟩
              | refine ⟨hc10, ?_⟩
              | refine ⟨of_decide_eq_true rfl, ?_⟩
              | refine ⟨fun _ => of_decide_eq_true rfl, ?_⟩
              | ((with_reducible refine ⟨?_, ?_⟩); (focus (intros; simp_all; done)))
              | ((with_reducible refine ⟨?_, ?_⟩); (focus (intros; omega)))) <;> (try (conv => whnf)))
            iterate 4
              · have hc' : c < 40 := by have := of_decide_eq_true (by assumption : decide ((c : Int) < 40) = true); omega
                refine next_i (c + 2) (by omega) (by omega) rfl rfl ?_
                conv => whnf
                refine ⟨rfl, leaf_i ?_⟩
                repeat' ((with_reducible refine And.intro ?_ ?_) <;> (try (conv => whnf)))
                all_goals (try (first | with_reducible rfl | exact True.intro | rfl | exact id | exact fun h => h | exact fun _ => rfl))
                all_goals (try (first | rfl | (show IntKind.i64.wrap ((c : Int) + 2) = ((c + 2 : Nat) : Int); rw [wrapI (by omega) (by omega)]; rfl)))
            · refine next_i (j + 1) hj' (by omega) rfl rfl ?_
              conv => whnf
              refine ⟨rfl, leaf_i ?_⟩
              repeat' ((with_reducible refine And.intro ?_ ?_) <;> (try (conv => whnf)))
              all_goals (try (first | with_reducible rfl | exact True.intro | rfl | exact id | exact fun h => h | exact fun _ => rfl))
              all_goals (try (first | rfl | exact wrapS (by omega)))
        · refine next_i (i + 1) hi6 (by omega) rfl rfl ?_
          conv => whnf
          refine ⟨rfl, leaf_i ?_⟩
          repeat' ((with_reducible refine And.intro ?_ ?_) <;> (try (conv => whnf)))
          all_goals (try (first | with_reducible rfl | exact True.intro | rfl | exact id | exact fun h => h | exact fun _ => rfl))
          all_goals (try (first | rfl | exact wrapS (by omega)))
    · refine only [] ?_
      (conv => whnf)
      refine looped (σ := Nat) (fun m => [(7, I m)]) (fun _ => [.fz true tN [], .fz true tN [zeroE tN], .row true tGr 23 gsK]) (fun m => m ≤ 256) (fun m => 256 - m) 0 (Nat.zero_le _) ?_ ?_
      · conv => whnf
        refine ⟨rfl, leaf_i ?_⟩
        repeat' ((with_reducible refine And.intro ?_ ?_) <;> (try (conv => whnf)))
        all_goals (try (first | with_reducible rfl | exact True.intro | rfl | exact id | exact fun h => h | exact fun _ => rfl))
      · rintro m hm
        dsimp only at hm ⊢
        conv => whnf
        repeat' ((first
          | with_reducible refine ⟨fun h => h, ?_⟩
          | with_reducible refine ⟨pk1, ?_⟩
          | with_reducible refine ⟨pk2, ?_⟩
          | with_reducible refine ⟨pk3, ?_⟩
          | with_reducible refine ⟨pk4, ?_⟩
          | with_reducible refine ⟨pk5, ?_⟩
          | with_reducible refine ⟨pk6, ?_⟩
          | with_reducible refine ⟨trivial, ?_⟩
          | with_reducible refine ⟨fun _ => trivial, ?_⟩
          | with_reducible refine ⟨rfl, ?_⟩
          | with_reducible refine every_i (fun hd => ?_)
          | with_reducible refine fork_t (by assumption) ?_
          | with_reducible refine fork_f (by assumption) ?_
          | refine fork_t rfl ?_
          | refine fork_f rfl ?_
          | with_reducible refine fork_i (fun h => ?_) (fun h => ?_)
          | with_reducible refine both_i ?_ ?_
          | ((with_reducible refine alike_i ?_); exact ⟨rfl, rfl, rfl⟩)
          | ((with_reducible refine fin_i ?_); (conv => whnf); refine ⟨rfl, ?_⟩)
          | refine ⟨of_decide_eq_true rfl, ?_⟩
          | refine ⟨fun _ => of_decide_eq_true rfl, ?_⟩
          | ((with_reducible refine ⟨?_, ?_⟩); (focus (intros; simp_all; done)))
          | ((with_reducible refine ⟨?_, ?_⟩); (focus (intros; omega)))) <;> (try (conv => whnf)))
        · have hm' : m < 256 := by have := of_decide_eq_true (by assumption : decide ((m : Int) < 256) = true); omega
          refine next_i (m + 1) hm' (by omega) rfl rfl ?_
          conv => whnf
          refine ⟨rfl, leaf_i ?_⟩
          repeat' ((with_reducible refine And.intro ?_ ?_) <;> (try (conv => whnf)))
          all_goals (try (first | with_reducible rfl | exact True.intro | rfl | exact id | exact fun h => h | exact fun _ => rfl))
          all_goals (try (first | rfl | exact wrapS (by omega)))
        · all_goals ((with_reducible refine leaf_i ?_); (conv => whnf))
          repeat' ((with_reducible refine And.intro ?_ ?_) <;> (try (conv => whnf)))
          all_goals (try (first | with_reducible rfl | exact True.intro | rfl | exact id | exact fun h => h | exact fun _ => rfl))
          all_goals (first | rfl | trace_state)
end Go.Proofs.Ytbgcgokikekmoaa
