/- FlowKnown: the walk. -/
import Derived.Test.YtjikhbdpkddbgaaC09N
import Derived.Test.YtjikhbdpkddbgaaC09M
namespace Go.Proofs.Ytjikhbdpkddbgaa
set_option linter.unusedVariables false
set_option linter.unusedSimpArgs false
open Go Go.RowKit Go.Proofs.Ytjikhbdpkddbgaa.Eng

def csK : List (FuncId × Con) := [(24, k_race.con), (25, k_meet.con), (26, k_str.con), (13, k_own2.con), (15, k_rput.con), (3, k_lput.con), (4, k_lget.con), (5, k_lback.con), (6, k_lto.con), (7, k_lsame.con), (12, k_works.con)]
theorem csK_ok : AllFn Try.prog csK := ⟨c_race, c_meet, c_str, c_own2, c_rput, c_lput, c_lget, c_lback, c_lto, c_lsame, c_works, trivial⟩
def nine : List (El tU) := [(0, ()), (1, ()), (2, ()), (3, ()), (4, ()), (31, ()), (32, ()), (33, ()), (255, ())]
theorem nine_ok {k : Nat} (h : k < nine.length) : 0 ≤ (getE tU nine k).1 ∧ (getE tU nine k).1 ≤ 255 := by
  have hB : isB nine := by unfold isB nine; decide
  exact hB.get h
theorem okG_set {g : List Nd} (hO : okG g) {n : Nat} {x : Nd} (h : okN x) : okG (g.set n x) := fun y hy => by
  rcases List.mem_or_eq_of_mem_set hy with hy | hy
  · exact hO y hy
  · subst hy; exact h
def k_known : Sig := .done { pre := True, res := B true }
set_option maxRecDepth 100000 in
set_option maxHeartbeats 16000000 in
theorem c_known : FnOk Try.prog 10 k_known.con := by
  refine fnOkS mixed tys_ok (cs := csK) csK_ok Try.func10 rfl (by kernel_rfl) Try.ntmps10 _ (h := ?_)
  refine ⟨rfl, fun _ => ?_⟩
  have nB : isB [] := fun x hx => by cases hx
  have nZ : okG (List.replicate (Int.toNat 32) (0, 0, 0, 0, [], ())) := fun n hn => by rw [List.eq_of_mem_replicate hn]; exact ⟨⟨by decide, by decide⟩, ⟨by decide, by decide⟩, by decide, by decide⟩
  have n0 : isB [(0, ())] := fun x hx => by rw [List.mem_singleton.1 hx]; decide
  have n1 : isB ([(33, ())] ++ List.replicate (Int.toNat 396) (0, ())) := fun x hx => by
    rcases List.mem_append.1 hx with hx | hx
    · rw [List.mem_singleton.1 hx]; decide
    · rw [List.eq_of_mem_replicate hx]; decide
  conv => whnf
  repeat' ((first
    | with_reducible refine ⟨fun h => h, ?_⟩
    | with_reducible refine ⟨pk1, ?_⟩
    | with_reducible refine ⟨pk2, ?_⟩
    | with_reducible refine ⟨pk3, ?_⟩
    | with_reducible refine ⟨pk4, ?_⟩
    | with_reducible refine ⟨pk5, ?_⟩
    | with_reducible refine ⟨pk6, ?_⟩
    | with_reducible refine ⟨trivial, ?_⟩
    | with_reducible refine ⟨fun _ => trivial, ?_⟩
    | with_reducible refine fork_t (by assumption) ?_
    | with_reducible refine fork_f (by assumption) ?_
    | refine fork_t rfl ?_
    | refine fork_f rfl ?_
    | with_reducible refine fork_i (fun h => ?_) (fun h => ?_)
    | with_reducible refine both_i ?_ ?_
    | ((with_reducible refine alike_i ?_); exact ⟨rfl, rfl, rfl⟩)
    | ((with_reducible refine fin_i ?_); (conv => whnf); refine ⟨rfl, ?_⟩)
    | refine ⟨of_decide_eq_true rfl, ?_⟩
    | refine ⟨fun _ => of_decide_eq_true rfl, ?_⟩
    | ((with_reducible refine ⟨?_, ?_⟩); (focus (intros; simp_all; done)))
    | ((with_reducible refine ⟨?_, ?_⟩); (focus (intros; omega)))) <;> (try (conv => whnf)))
  refine only [20] ?_
  (conv => whnf)
  refine looped (σ := Nat) (fun x => [(21, I x), (19, .ow 0 1 5)]) (fun _ => [.row true (.sl tN .nil) 23 gK]) (fun x => x ≤ 5) (fun x => 5 - x) 0 (Nat.zero_le _) ?_ ?_
  · conv => whnf
    refine ⟨rfl, leaf_i ?_⟩
    repeat' ((with_reducible refine And.intro ?_ ?_) <;> (try (conv => whnf)))
    all_goals (try (first | with_reducible rfl | exact True.intro | rfl | exact id | exact fun h => h | exact fun _ => rfl))
  · intro j hj
    dsimp only at hj ⊢
    conv => whnf
    repeat' ((first
      | with_reducible refine ⟨fun h => h, ?_⟩
      | with_reducible refine ⟨pk1, ?_⟩
      | with_reducible refine ⟨pk2, ?_⟩
      | with_reducible refine ⟨pk3, ?_⟩
      | with_reducible refine ⟨pk4, ?_⟩
      | with_reducible refine ⟨pk5, ?_⟩
      | with_reducible refine ⟨pk6, ?_⟩
      | with_reducible refine ⟨trivial, ?_⟩
      | with_reducible refine ⟨fun _ => trivial, ?_⟩
      | with_reducible refine fork_t (by assumption) ?_
      | with_reducible refine fork_f (by assumption) ?_
      | refine fork_t rfl ?_
      | refine fork_f rfl ?_
      | with_reducible refine fork_i (fun h => ?_) (fun h => ?_)
      | with_reducible refine both_i ?_ ?_
      | ((with_reducible refine alike_i ?_); exact ⟨rfl, rfl, rfl⟩)
      | ((with_reducible refine fin_i ?_); (conv => whnf); refine ⟨rfl, ?_⟩)
      | refine ⟨fun _ => nB, ?_⟩
      | refine ⟨fun _ => ⟨nZ, n0⟩, ?_⟩
      | refine ⟨fun _ => n1, ?_⟩
      | refine ⟨of_decide_eq_true rfl, ?_⟩
      | refine ⟨fun _ => of_decide_eq_true rfl, ?_⟩
      | ((with_reducible refine ⟨?_, ?_⟩); (focus (intros; simp_all; done)))
      | ((with_reducible refine ⟨?_, ?_⟩); (focus (intros; omega)))) <;> (try (conv => whnf)))
    · have hj' : j < gK.length := lt_t (by assumption)
      obtain ⟨hO, hl, hx, hb⟩ := gK_ok hj'
      have hB := putG_isB hO
      have hf : fitG (getE (.sl tN .nil) gK j).1 := ⟨by omega, fun n hn => by have := hx n hn; omega⟩
      refine ⟨hf, ?_⟩
      generalize hg : (getE (.sl tN .nil) gK (j : Int).toNat).1 = g
      have hg : (getE (.sl tN .nil) gK j).1 = g := hg
      rw [hg] at hO hl hx hb hB hf
      (conv => whnf)
      conv => whnf
      repeat' ((first
        | with_reducible refine ⟨fun h => h, ?_⟩
        | with_reducible refine ⟨pk1, ?_⟩
        | with_reducible refine ⟨pk2, ?_⟩
        | with_reducible refine ⟨pk3, ?_⟩
        | with_reducible refine ⟨pk4, ?_⟩
        | with_reducible refine ⟨pk5, ?_⟩
        | with_reducible refine ⟨pk6, ?_⟩
        | with_reducible refine ⟨trivial, ?_⟩
        | with_reducible refine ⟨fun _ => trivial, ?_⟩
        | with_reducible refine fork_t (by assumption) ?_
        | with_reducible refine fork_f (by assumption) ?_
        | refine fork_t rfl ?_
        | refine fork_f rfl ?_
        | with_reducible refine fork_i (fun h => ?_) (fun h => ?_)
        | with_reducible refine both_i ?_ ?_
        | ((with_reducible refine alike_i ?_); exact ⟨rfl, rfl, rfl⟩)
        | ((with_reducible refine fin_i ?_); (conv => whnf); refine ⟨rfl, ?_⟩)
        | refine ⟨of_decide_eq_true rfl, ?_⟩
        | refine ⟨fun _ => of_decide_eq_true rfl, ?_⟩
        | ((with_reducible refine ⟨?_, ?_⟩); (focus (intros; simp_all; done)))
        | ((with_reducible refine ⟨?_, ?_⟩); (focus (intros; omega)))) <;> (try (conv => whnf)))
      refine only [2, 3, 20, 21] ?_
      (conv => whnf)
      refine looped (σ := Nat) (fun x => [(5, I x), (19, .ow 0 1 5)]) (fun _ => [.row true (.sl tN .nil) 23 gK]) (fun x => x ≤ (putG g).1.length) (fun x => (putG g).1.length - x) 0 (Nat.zero_le _) ?_ ?_
      · conv => whnf
        refine ⟨rfl, leaf_i ?_⟩
        repeat' ((with_reducible refine And.intro ?_ ?_) <;> (try (conv => whnf)))
        all_goals (try (first | with_reducible rfl | exact True.intro | rfl | exact id | exact fun h => h | exact fun _ => rfl))
      · intro i hi
        dsimp only at hi ⊢
        conv => whnf
        repeat' ((first
          | with_reducible refine ⟨fun h => h, ?_⟩
          | with_reducible refine ⟨pk1, ?_⟩
          | with_reducible refine ⟨pk2, ?_⟩
          | with_reducible refine ⟨pk3, ?_⟩
          | with_reducible refine ⟨pk4, ?_⟩
          | with_reducible refine ⟨pk5, ?_⟩
          | with_reducible refine ⟨pk6, ?_⟩
          | with_reducible refine ⟨trivial, ?_⟩
          | with_reducible refine ⟨fun _ => trivial, ?_⟩
          | with_reducible refine fork_t (by assumption) ?_
          | with_reducible refine fork_f (by assumption) ?_
          | refine fork_t rfl ?_
          | refine fork_f rfl ?_
          | with_reducible refine fork_i (fun h => ?_) (fun h => ?_)
          | with_reducible refine both_i ?_ ?_
          | ((with_reducible refine alike_i ?_); exact ⟨rfl, rfl, rfl⟩)
          | ((with_reducible refine fin_i ?_); (conv => whnf); refine ⟨rfl, ?_⟩)
          | refine ⟨of_decide_eq_true rfl, ?_⟩
          | refine ⟨fun _ => of_decide_eq_true rfl, ?_⟩
          | ((with_reducible refine ⟨?_, ?_⟩); (focus (intros; simp_all; done)))
          | ((with_reducible refine ⟨?_, ?_⟩); (focus (intros; omega)))) <;> (try (conv => whnf)))
        · have hi' : i < (putG g).1.length := lt_t (by assumption)
          refine only [2, 3, 5, 20, 21, 37] ?_
          (conv => whnf)
          refine looped (σ := Nat) (fun x => [(38, I x), (36, .ow 1 1 9), (19, .ow 0 1 5)]) (fun _ => [.row true (.sl tN .nil) 23 gK, .row true tU 5 nine]) (fun x => x ≤ 9) (fun x => 9 - x) 0 (Nat.zero_le _) ?_ ?_
          · conv => whnf
            refine ⟨rfl, leaf_i ?_⟩
            repeat' ((with_reducible refine And.intro ?_ ?_) <;> (try (conv => whnf)))
            all_goals (try (first | with_reducible rfl | exact True.intro | rfl | exact id | exact fun h => h | exact fun _ => rfl))
          · intro k hk
            dsimp only at hk ⊢
            conv => whnf
            repeat' ((first
              | with_reducible refine ⟨fun h => h, ?_⟩
              | with_reducible refine ⟨pk1, ?_⟩
              | with_reducible refine ⟨pk2, ?_⟩
              | with_reducible refine ⟨pk3, ?_⟩
              | with_reducible refine ⟨pk4, ?_⟩
              | with_reducible refine ⟨pk5, ?_⟩
              | with_reducible refine ⟨pk6, ?_⟩
              | with_reducible refine ⟨trivial, ?_⟩
              | with_reducible refine ⟨fun _ => trivial, ?_⟩
              | with_reducible refine fork_t (by assumption) ?_
              | with_reducible refine fork_f (by assumption) ?_
              | refine fork_t rfl ?_
              | refine fork_f rfl ?_
              | with_reducible refine fork_i (fun h => ?_) (fun h => ?_)
              | with_reducible refine both_i ?_ ?_
              | ((with_reducible refine alike_i ?_); exact ⟨rfl, rfl, rfl⟩)
              | ((with_reducible refine fin_i ?_); (conv => whnf); refine ⟨rfl, ?_⟩)
              | refine ⟨of_decide_eq_true rfl, ?_⟩
              | refine ⟨fun _ => of_decide_eq_true rfl, ?_⟩
              | ((with_reducible refine ⟨?_, ?_⟩); (focus (intros; simp_all; done)))
              | ((with_reducible refine ⟨?_, ?_⟩); (focus (intros; omega)))) <;> (try (conv => whnf)))
            · have hk' : k < nine.length := lt_t (by assumption)
              have hsz := bytes_size (putG g).1
              have hbb := bytes_back hB
              have hil : i < (bytesOf (putG g).1).size := by omega
              obtain ⟨hc0, hc1⟩ := nine_ok hk'
              refine ⟨by omega, ?_⟩
              generalize hcc : (getE tU nine (k : Int).toNat).1 = c
              have hcc : (getE tU nine k).1 = c := hcc
              rw [hcc] at hc0 hc1
              (conv => whnf)
              conv => whnf
              repeat' ((first
                | with_reducible refine ⟨fun h => h, ?_⟩
                | with_reducible refine ⟨pk1, ?_⟩
                | with_reducible refine ⟨pk2, ?_⟩
                | with_reducible refine ⟨pk3, ?_⟩
                | with_reducible refine ⟨pk4, ?_⟩
                | with_reducible refine ⟨pk5, ?_⟩
                | with_reducible refine ⟨pk6, ?_⟩
                | with_reducible refine ⟨trivial, ?_⟩
                | with_reducible refine ⟨fun _ => trivial, ?_⟩
                | with_reducible refine fork_t (by assumption) ?_
                | with_reducible refine fork_f (by assumption) ?_
                | refine fork_t rfl ?_
                | refine fork_f rfl ?_
                | with_reducible refine fork_i (fun h => ?_) (fun h => ?_)
                | with_reducible refine both_i ?_ ?_
                | ((with_reducible refine alike_i ?_); exact ⟨rfl, rfl, rfl⟩)
                | ((with_reducible refine fin_i ?_); (conv => whnf); refine ⟨rfl, ?_⟩)
                | refine ⟨of_decide_eq_true rfl, ?_⟩
                | refine ⟨fun _ => of_decide_eq_true rfl, ?_⟩
                | ((with_reducible refine ⟨?_, ?_⟩); (focus (intros; simp_all; done)))
                | ((with_reducible refine ⟨?_, ?_⟩); (focus (intros; omega)))) <;> (try (conv => whnf)))
              have hBx : isB ((ofBytes (bytesOf (putG g).1)).set (i : Int).toNat (c, ())) := by
                rw [hbb]
                intro y hy
                rcases List.mem_or_eq_of_mem_set hy with hy | hy
                · exact hB y hy
                · subst hy; exact ⟨hc0, hc1⟩
              refine ⟨hBx, ?_⟩
              (conv => whnf)
              conv => whnf
              repeat' ((first
                | with_reducible refine ⟨fun h => h, ?_⟩
                | with_reducible refine ⟨pk1, ?_⟩
                | with_reducible refine ⟨pk2, ?_⟩
                | with_reducible refine ⟨pk3, ?_⟩
                | with_reducible refine ⟨pk4, ?_⟩
                | with_reducible refine ⟨pk5, ?_⟩
                | with_reducible refine ⟨pk6, ?_⟩
                | with_reducible refine ⟨trivial, ?_⟩
                | with_reducible refine ⟨fun _ => trivial, ?_⟩
                | with_reducible refine fork_t (by assumption) ?_
                | with_reducible refine fork_f (by assumption) ?_
                | refine fork_t rfl ?_
                | refine fork_f rfl ?_
                | with_reducible refine fork_i (fun h => ?_) (fun h => ?_)
                | with_reducible refine both_i ?_ ?_
                | ((with_reducible refine alike_i ?_); exact ⟨rfl, rfl, rfl⟩)
                | ((with_reducible refine fin_i ?_); (conv => whnf); refine ⟨rfl, ?_⟩)
                | refine ⟨fun _ => ⟨hO, hBx⟩, ?_⟩
                | refine ⟨of_decide_eq_true rfl, ?_⟩
                | refine ⟨fun _ => of_decide_eq_true rfl, ?_⟩
                | ((with_reducible refine ⟨?_, ?_⟩); (focus (intros; simp_all; done)))
                | ((with_reducible refine ⟨?_, ?_⟩); (focus (intros; omega)))) <;> (try (conv => whnf)))
              · exfalso
                have h : (bif !true then true else bif decide (c < 3) then !true else false) = true := h
                cases hd : decide (c < 3) <;> rw [hd] at h <;> cases h
              · refine next_i (k + 1) hk' (by have : nine.length = 9 := rfl; omega) rfl rfl ?_
                conv => whnf
                refine ⟨rfl, leaf_i ?_⟩
                repeat' ((with_reducible refine And.intro ?_ ?_) <;> (try (conv => whnf)))
                all_goals (try (first | with_reducible rfl | exact True.intro | rfl | exact id | exact fun h => h | exact fun _ => rfl))
                all_goals first | exact wrapS (by have : nine.length = 9 := rfl; omega) | rfl | trace_state
            · have hk' : nine.length ≤ k := lt_f (by assumption)
              refine next_i (i + 1) (by omega) (by omega) rfl rfl ?_
              conv => whnf
              refine ⟨rfl, leaf_i ?_⟩
              repeat' ((with_reducible refine And.intro ?_ ?_) <;> (try (conv => whnf)))
              all_goals (try (first | with_reducible rfl | exact True.intro | rfl | exact id | exact fun h => h | exact fun _ => rfl))
              all_goals first | exact wrapS (by omega) | rfl | trace_state
        · have hi' : (putG g).1.length ≤ i := lt_f (by assumption)
          refine only [2, 20, 21] ?_
          (conv => whnf)
          refine looped (σ := Nat) (fun x => [(9, I x), (19, .ow 0 1 5)]) (fun _ => [.row true (.sl tN .nil) 23 gK]) (fun x => x ≤ g.length) (fun x => g.length - x) 0 (Nat.zero_le _) ?_ ?_
          · conv => whnf
            refine ⟨rfl, leaf_i ?_⟩
            repeat' ((with_reducible refine And.intro ?_ ?_) <;> (try (conv => whnf)))
            all_goals (try (first | with_reducible rfl | exact True.intro | rfl | exact id | exact fun h => h | exact fun _ => rfl))
          · intro n hn
            dsimp only at hn ⊢
            conv => whnf
            repeat' ((first
              | with_reducible refine ⟨fun h => h, ?_⟩
              | with_reducible refine ⟨pk1, ?_⟩
              | with_reducible refine ⟨pk2, ?_⟩
              | with_reducible refine ⟨pk3, ?_⟩
              | with_reducible refine ⟨pk4, ?_⟩
              | with_reducible refine ⟨pk5, ?_⟩
              | with_reducible refine ⟨pk6, ?_⟩
              | with_reducible refine ⟨trivial, ?_⟩
              | with_reducible refine ⟨fun _ => trivial, ?_⟩
              | with_reducible refine fork_t (by assumption) ?_
              | with_reducible refine fork_f (by assumption) ?_
              | refine fork_t rfl ?_
              | refine fork_f rfl ?_
              | with_reducible refine fork_i (fun h => ?_) (fun h => ?_)
              | with_reducible refine both_i ?_ ?_
              | ((with_reducible refine alike_i ?_); exact ⟨rfl, rfl, rfl⟩)
              | ((with_reducible refine fin_i ?_); (conv => whnf); refine ⟨rfl, ?_⟩)
              | refine ⟨of_decide_eq_true rfl, ?_⟩
              | refine ⟨fun _ => of_decide_eq_true rfl, ?_⟩
              | ((with_reducible refine ⟨?_, ?_⟩); (focus (intros; simp_all; done)))
              | ((with_reducible refine ⟨?_, ?_⟩); (focus (intros; omega)))) <;> (try (conv => whnf)))
            · have hn' : n < g.length := lt_t (by assumption)
              refine only [2, 9, 20, 21] ?_
              (conv => whnf)
              refine looped (σ := Nat) (fun x => [(10, I x), (19, .ow 0 1 5)]) (fun _ => [.row true (.sl tN .nil) 23 gK]) (fun x => x ≤ 10) (fun x => 10 - x) 0 (Nat.zero_le _) ?_ ?_
              · conv => whnf
                refine ⟨rfl, leaf_i ?_⟩
                repeat' ((with_reducible refine And.intro ?_ ?_) <;> (try (conv => whnf)))
                all_goals (try (first | with_reducible rfl | exact True.intro | rfl | exact id | exact fun h => h | exact fun _ => rfl))
              · intro z hz
                dsimp only at hz ⊢
                conv => whnf
                repeat' ((first
                  | with_reducible refine ⟨fun h => h, ?_⟩
                  | with_reducible refine ⟨pk1, ?_⟩
                  | with_reducible refine ⟨pk2, ?_⟩
                  | with_reducible refine ⟨pk3, ?_⟩
                  | with_reducible refine ⟨pk4, ?_⟩
                  | with_reducible refine ⟨pk5, ?_⟩
                  | with_reducible refine ⟨pk6, ?_⟩
                  | with_reducible refine ⟨trivial, ?_⟩
                  | with_reducible refine ⟨fun _ => trivial, ?_⟩
                  | with_reducible refine fork_t (by assumption) ?_
                  | with_reducible refine fork_f (by assumption) ?_
                  | refine fork_t rfl ?_
                  | refine fork_f rfl ?_
                  | with_reducible refine fork_i (fun h => ?_) (fun h => ?_)
                  | with_reducible refine both_i ?_ ?_
                  | ((with_reducible refine alike_i ?_); exact ⟨rfl, rfl, rfl⟩)
                  | ((with_reducible refine fin_i ?_); (conv => whnf); refine ⟨rfl, ?_⟩)
                  | refine ⟨of_decide_eq_true rfl, ?_⟩
                  | refine ⟨fun _ => of_decide_eq_true rfl, ?_⟩
                  | ((with_reducible refine ⟨?_, ?_⟩); (focus (intros; simp_all; done)))
                  | ((with_reducible refine ⟨?_, ?_⟩); (focus (intros; omega)))) <;> (try (conv => whnf)))
                · have hz' : z < 10 := lt_t (by assumption)
                  refine ⟨⟨by omega, fun x hh => Nat.le_trans (hx x hh) (by decide)⟩, ?_⟩
                  (conv => whnf)
                  have k0 : (0 : Int) ≤ 255 ∧ (255 : Int) ≤ 255 := by decide
                  have k1 : (-9223372036854775808 : Int) ≤ -9223372036854775808 ∧ (-9223372036854775808 : Int) ≤ 9223372036854775807 := by decide
                  have hN : okN (getE tN g n) := hO _ (getE_mem g hn')
                  conv => whnf
                  repeat' ((first
                    | with_reducible refine ⟨fun h => h, ?_⟩
                    | with_reducible refine ⟨pk1, ?_⟩
                    | with_reducible refine ⟨pk2, ?_⟩
                    | with_reducible refine ⟨pk3, ?_⟩
                    | with_reducible refine ⟨pk4, ?_⟩
                    | with_reducible refine ⟨pk5, ?_⟩
                    | with_reducible refine ⟨pk6, ?_⟩
                    | with_reducible refine ⟨trivial, ?_⟩
                    | with_reducible refine ⟨fun _ => trivial, ?_⟩
                    | with_reducible refine fork_t (by assumption) ?_
                    | with_reducible refine fork_f (by assumption) ?_
                    | refine fork_t rfl ?_
                    | refine fork_f rfl ?_
                    | with_reducible refine fork_i (fun h => ?_) (fun h => ?_)
                    | with_reducible refine both_i ?_ ?_
                    | ((with_reducible refine alike_i ?_); exact ⟨rfl, rfl, rfl⟩)
                    | ((with_reducible refine fin_i ?_); (conv => whnf); refine ⟨rfl, ?_⟩)
                    | refine ⟨fun _ => ⟨okG_set hO ⟨hN.1, hN.2.1, hN.2.2⟩, nB⟩, ?_⟩
                    | refine ⟨fun _ => ⟨okG_set hO ⟨k0, hN.2.1, hN.2.2⟩, nB⟩, ?_⟩
                    | refine ⟨fun _ => ⟨okG_set hO ⟨hN.1, k0, hN.2.2⟩, nB⟩, ?_⟩
                    | refine ⟨fun _ => ⟨okG_set hO ⟨hN.1, hN.2.1, k1⟩, nB⟩, ?_⟩
                    | refine ⟨of_decide_eq_true rfl, ?_⟩
                    | refine ⟨fun _ => of_decide_eq_true rfl, ?_⟩
                    | ((with_reducible refine ⟨?_, ?_⟩); (focus (intros; simp_all; done)))
                    | ((with_reducible refine ⟨?_, ?_⟩); (focus (intros; omega)))) <;> (try (conv => whnf)))
                  · refine next_i (z + 1) hz' (by omega) rfl rfl ?_
                    conv => whnf
                    refine ⟨rfl, leaf_i ?_⟩
                    repeat' ((with_reducible refine And.intro ?_ ?_) <;> (try (conv => whnf)))
                    all_goals (try (first | with_reducible rfl | exact True.intro | rfl | exact id | exact fun h => h | exact fun _ => rfl))
                    all_goals first | exact wrapS (by omega) | rfl | trace_state
                  · refine next_i (z + 1) hz' (by omega) rfl rfl ?_
                    conv => whnf
                    refine ⟨rfl, leaf_i ?_⟩
                    repeat' ((with_reducible refine And.intro ?_ ?_) <;> (try (conv => whnf)))
                    all_goals (try (first | with_reducible rfl | exact True.intro | rfl | exact id | exact fun h => h | exact fun _ => rfl))
                    all_goals first | exact wrapS (by omega) | rfl | trace_state
                  · refine next_i (z + 1) hz' (by omega) rfl rfl ?_
                    conv => whnf
                    refine ⟨rfl, leaf_i ?_⟩
                    repeat' ((with_reducible refine And.intro ?_ ?_) <;> (try (conv => whnf)))
                    all_goals (try (first | with_reducible rfl | exact True.intro | rfl | exact id | exact fun h => h | exact fun _ => rfl))
                    all_goals first | exact wrapS (by omega) | rfl | trace_state
                  · refine next_i (z + 1) hz' (by omega) rfl rfl ?_
                    conv => whnf
                    refine ⟨rfl, leaf_i ?_⟩
                    repeat' ((with_reducible refine And.intro ?_ ?_) <;> (try (conv => whnf)))
                    all_goals (try (first | with_reducible rfl | exact True.intro | rfl | exact id | exact fun h => h | exact fun _ => rfl))
                    all_goals first | exact wrapS (by omega) | rfl | trace_state
                  · refine next_i (z + 1) hz' (by omega) rfl rfl ?_
                    conv => whnf
                    refine ⟨rfl, leaf_i ?_⟩
                    repeat' ((with_reducible refine And.intro ?_ ?_) <;> (try (conv => whnf)))
                    all_goals (try (first | with_reducible rfl | exact True.intro | rfl | exact id | exact fun h => h | exact fun _ => rfl))
                    all_goals first | exact wrapS (by omega) | rfl | trace_state
                  · refine next_i (z + 1) hz' (by omega) rfl rfl ?_
                    conv => whnf
                    refine ⟨rfl, leaf_i ?_⟩
                    repeat' ((with_reducible refine And.intro ?_ ?_) <;> (try (conv => whnf)))
                    all_goals (try (first | with_reducible rfl | exact True.intro | rfl | exact id | exact fun h => h | exact fun _ => rfl))
                    all_goals first | exact wrapS (by omega) | rfl | trace_state
                  · refine next_i (z + 1) hz' (by omega) rfl rfl ?_
                    conv => whnf
                    refine ⟨rfl, leaf_i ?_⟩
                    repeat' ((with_reducible refine And.intro ?_ ?_) <;> (try (conv => whnf)))
                    all_goals (try (first | with_reducible rfl | exact True.intro | rfl | exact id | exact fun h => h | exact fun _ => rfl))
                    all_goals first | exact wrapS (by omega) | rfl | trace_state
                  · refine next_i (z + 1) hz' (by omega) rfl rfl ?_
                    conv => whnf
                    refine ⟨rfl, leaf_i ?_⟩
                    repeat' ((with_reducible refine And.intro ?_ ?_) <;> (try (conv => whnf)))
                    all_goals (try (first | with_reducible rfl | exact True.intro | rfl | exact id | exact fun h => h | exact fun _ => rfl))
                    all_goals first | exact wrapS (by omega) | rfl | trace_state
                  · refine next_i (z + 1) hz' (by omega) rfl rfl ?_
                    conv => whnf
                    refine ⟨rfl, leaf_i ?_⟩
                    repeat' ((with_reducible refine And.intro ?_ ?_) <;> (try (conv => whnf)))
                    all_goals (try (first | with_reducible rfl | exact True.intro | rfl | exact id | exact fun h => h | exact fun _ => rfl))
                    all_goals first | exact wrapS (by omega) | rfl | trace_state
                  · refine next_i (z + 1) hz' (by omega) rfl rfl ?_
                    conv => whnf
                    refine ⟨rfl, leaf_i ?_⟩
                    repeat' ((with_reducible refine And.intro ?_ ?_) <;> (try (conv => whnf)))
                    all_goals (try (first | with_reducible rfl | exact True.intro | rfl | exact id | exact fun h => h | exact fun _ => rfl))
                    all_goals first | exact wrapS (by omega) | rfl | trace_state
                · have hz' : 10 ≤ z := lt_f (by assumption)
                  refine next_i (n + 1) hn' (by omega) rfl rfl ?_
                  conv => whnf
                  refine ⟨rfl, leaf_i ?_⟩
                  repeat' ((with_reducible refine And.intro ?_ ?_) <;> (try (conv => whnf)))
                  all_goals (try (first | with_reducible rfl | exact True.intro | rfl | exact id | exact fun h => h | exact fun _ => rfl))
                  all_goals first | exact wrapS (by omega) | rfl | trace_state
            · have hn' : g.length ≤ n := lt_f (by assumption)
              refine next_i (j + 1) hj' (by have : gK.length = 5 := rfl; omega) rfl rfl ?_
              conv => whnf
              refine ⟨rfl, leaf_i ?_⟩
              repeat' ((with_reducible refine And.intro ?_ ?_) <;> (try (conv => whnf)))
              all_goals (try (first | with_reducible rfl | exact True.intro | rfl | exact id | exact fun h => h | exact fun _ => rfl))
              all_goals first | exact wrapS (by have : gK.length = 5 := rfl; omega) | rfl | trace_state
    · all_goals ((with_reducible refine leaf_i ?_); (conv => whnf))
      repeat' ((with_reducible refine And.intro ?_ ?_) <;> (try (conv => whnf)))
      all_goals (try (first | with_reducible rfl | exact True.intro | rfl | exact id | exact fun h => h | exact fun _ => rfl))
end Go.Proofs.Ytjikhbdpkddbgaa
