/- Layer 8: Least. -/
import Derived.Test.YthlkhjfilfdpiaaD08M
import Derived.Test.YthlkhjfilfdpiaaP08S
import Derived.Test.YthlkhjfilfdpiaaC08S
namespace Go.Proofs.Ythlkhjfilfdpiaa
set_option linter.unusedVariables false
set_option linter.unusedSimpArgs false
set_option maxRecDepth 100000
open Go Go.RowKit Go.Sort Go.Shelf Go.Proofs.Ythlkhjfilfdpiaa.Eng

/-- Does one stay? -/
def staysS (l : List (El tS)) (s : El tS) : Bool := bif (toS s).ok then !hasA s l else false
def srtS (l : List (El tS)) : List (El tS) := l.mergeSort fun x y => !(ltOf ordS) y x
def leastL (l : List (El tS)) : List (El tS) := srtS (l.filter (staysS l))
theorem srtS_len (l : List (El tS)) : (srtS l).length = l.length := by unfold srtS; simp
theorem leastL_len (l : List (El tS)) : (leastL l).length ≤ l.length := by
  unfold leastL; rw [srtS_len]; exact List.length_filter_le _ _

theorem isAgg_of {P : Program} {t : TypeId} {i : TI} (hi : TIok P t i) (h : i.ag = true) (w : World) : (isAgg t).run P w = .ok true w := by
  have hu := hi.ag
  cases hq : P.underlying t with
  | none => simp [hq] at hu
  | some d =>
    have : d.isRow = true := by simpa [hq, h] using hu
    unfold isAgg
    rw [Sem.run_bind, run_underlying hq w]
    cases d <;> simp_all [TypeDesc.isRow]

theorem c_sort : FnOk Try.prog 37 (sortSig tS 24 38 srtS).con := by
  obtain ⟨i, hi⟩ : ∃ i, tyOf tys 24 = some i := ⟨_, rfl⟩
  have hT := allTy_ok tys tys_ok _ i hi
  have ha : i.ag = true := by injection hi with hi; subst hi; rfl
  have hz : i.sz = tsz tS := by injection hi with hi; subst hi; rfl
  refine fnOk_sort sortLay rfl 24 (isAgg_of hT ha) (fun w => by have := Eng.run_sizeOf hT w; rw [hz] at this; exact this) 38 ordS ord_swo ord_parts (fun args w => rfl) c_order rfl ⟨_, Try.func37, by kernel_rfl, ?_⟩
  decide +kernel

def k_least : Sig := .arg (shR tS) fun l => .done { pre := l.length ≤ 1000000, res := .ws 0 7 0 (comp (leastL l)).length, new := [.row true tS 24 (compZ (leastL l))] }
set_option maxHeartbeats 4000000 in
theorem c_least : FnOk Try.prog 26 k_least.con := by
  refine fnOkS mixed tys_ok (cs := [(16, k_rS.con), (36, k_hasA.con), (37, (sortSig tS 24 38 srtS).con), (39, k_comp.con)]) ⟨c_rS, c_hasA, c_sort, c_comp, trivial⟩ Try.func26 rfl (by kernel_rfl) Try.ntmps26 _ (h := ?_)
  intro l
  refine ⟨rfl, fun hp => ?_⟩
  have hp : l.length ≤ 1000000 := hp
  conv => whnf
  repeat' ((first
    | with_reducible refine ⟨fun h => h, ?_⟩
    | with_reducible refine ⟨pk1, ?_⟩
    | with_reducible refine ⟨pk2, ?_⟩
    | with_reducible refine ⟨pk3, ?_⟩
    | with_reducible refine ⟨pk4, ?_⟩
    | with_reducible refine ⟨pk5, ?_⟩
    | with_reducible refine ⟨pk6, ?_⟩
    | with_reducible refine ⟨trivial, ?_⟩
    | with_reducible refine ⟨fun _ => trivial, ?_⟩
    | with_reducible refine fork_t (by assumption) ?_
    | with_reducible refine fork_f (by assumption) ?_
    | refine fork_t rfl ?_
    | refine fork_f rfl ?_
    | with_reducible refine fork_i (fun h => ?_) (fun h => ?_)
    | with_reducible refine both_i ?_ ?_
    | ((with_reducible refine alike_i ?_); exact ⟨rfl, rfl, rfl⟩)
    | ((with_reducible refine fin_i ?_); (conv => whnf); refine ⟨rfl, ?_⟩)
    | refine ⟨of_decide_eq_true rfl, ?_⟩
    | refine ⟨fun _ => of_decide_eq_true rfl, ?_⟩
    | ((with_reducible refine ⟨?_, ?_⟩); (focus (intros; simp_all; done)))
    | ((with_reducible refine ⟨?_, ?_⟩); (focus (intros; omega)))) <;> (try (conv => whnf)))
  refine looped (σ := Nat × List (El tS)) (fun x => [(9, I x.1), (3, .ow 0 7 x.2.length)]) (fun x => [.row true tS 24 x.2]) (fun x => x.1 ≤ l.length ∧ x.2.length ≤ x.1 ∧ x.2 ++ (l.drop x.1).filter (staysS l) = l.filter (staysS l)) (fun x => l.length - x.1) (0, []) ⟨Nat.zero_le _, Nat.zero_le _, rfl⟩ ?_ ?_
  · conv => whnf
    refine ⟨rfl, leaf_i ?_⟩
    repeat' ((with_reducible refine And.intro ?_ ?_) <;> (try (conv => whnf)))
    all_goals (try (first | with_reducible rfl | exact True.intro | rfl | exact id | exact fun h => h | exact fun _ => rfl))
    all_goals trace_state
  · rintro ⟨j, out⟩ ⟨hj, ho, hl⟩
    dsimp only at hj ho hl ⊢
    conv => whnf
    repeat' ((first
      | with_reducible refine ⟨fun h => h, ?_⟩
      | with_reducible refine ⟨pk1, ?_⟩
      | with_reducible refine ⟨pk2, ?_⟩
      | with_reducible refine ⟨pk3, ?_⟩
      | with_reducible refine ⟨pk4, ?_⟩
      | with_reducible refine ⟨pk5, ?_⟩
      | with_reducible refine ⟨pk6, ?_⟩
      | with_reducible refine ⟨trivial, ?_⟩
      | with_reducible refine ⟨fun _ => trivial, ?_⟩
      | with_reducible refine fork_t (by assumption) ?_
      | with_reducible refine fork_f (by assumption) ?_
      | refine fork_t rfl ?_
      | refine fork_f rfl ?_
      | with_reducible refine fork_i (fun h => ?_) (fun h => ?_)
      | with_reducible refine both_i ?_ ?_
      | ((with_reducible refine alike_i ?_); exact ⟨rfl, rfl, rfl⟩)
      | ((with_reducible refine fin_i ?_); (conv => whnf); refine ⟨rfl, ?_⟩)
      | ((with_reducible refine ⟨?_, ?_⟩); (focus (rw [List.length_append, List.length_singleton]; omega)))
      | refine ⟨of_decide_eq_true rfl, ?_⟩
      | refine ⟨fun _ => of_decide_eq_true rfl, ?_⟩
      | ((with_reducible refine ⟨?_, ?_⟩); (focus (intros; simp_all; done)))
      | ((with_reducible refine ⟨?_, ?_⟩); (focus (intros; omega)))) <;> (try (conv => whnf)))
    · rename_i hb
      have hb := lt_t' hb
      have h : staysS l (getE tS l j) = true := h
      rw [drop_get' _ hb, List.filter_cons_of_pos h] at hl
      refine next_i (j + 1, out ++ [getE tS l j]) ⟨by dsimp only; omega, by dsimp only; rw [List.length_append, List.length_singleton]; omega, by dsimp only; rw [List.append_assoc]; exact hl⟩ (by dsimp only; omega) rfl rfl ?_
      conv => whnf
      refine ⟨rfl, leaf_i ?_⟩
      repeat' ((with_reducible refine And.intro ?_ ?_) <;> (try (conv => whnf)))
      all_goals (try (first | with_reducible rfl | exact True.intro | rfl | exact id | exact fun h => h | exact fun _ => rfl))
      all_goals first | exact wrapS' (by omega) | rfl | trace_state
    · rename_i hb
      have hb := lt_t' hb
      have h : staysS l (getE tS l j) = false := h
      rw [drop_get' _ hb, List.filter_cons_of_neg (by rw [h]; simp)] at hl
      refine next_i (j + 1, out) ⟨by dsimp only; omega, by dsimp only; omega, hl⟩ (by dsimp only; omega) rfl rfl ?_
      conv => whnf
      refine ⟨rfl, leaf_i ?_⟩
      repeat' ((with_reducible refine And.intro ?_ ?_) <;> (try (conv => whnf)))
      all_goals (try (first | with_reducible rfl | exact True.intro | rfl | exact id | exact fun h => h | exact fun _ => rfl))
      all_goals first | exact wrapS' (by omega) | rfl | trace_state
    · have hb := lt_f' h
      have hll : j = l.length := by omega
      rw [hll, List.drop_length, List.filter_nil, List.append_nil] at hl
      refine ⟨by show out.length < _; omega, ?_⟩
      (conv => whnf)
      conv => whnf
      repeat' ((first
        | with_reducible refine ⟨fun h => h, ?_⟩
        | with_reducible refine ⟨pk1, ?_⟩
        | with_reducible refine ⟨pk2, ?_⟩
        | with_reducible refine ⟨pk3, ?_⟩
        | with_reducible refine ⟨pk4, ?_⟩
        | with_reducible refine ⟨pk5, ?_⟩
        | with_reducible refine ⟨pk6, ?_⟩
        | with_reducible refine ⟨trivial, ?_⟩
        | with_reducible refine ⟨fun _ => trivial, ?_⟩
        | with_reducible refine fork_t (by assumption) ?_
        | with_reducible refine fork_f (by assumption) ?_
        | refine fork_t rfl ?_
        | refine fork_f rfl ?_
        | with_reducible refine fork_i (fun h => ?_) (fun h => ?_)
        | with_reducible refine both_i ?_ ?_
        | ((with_reducible refine alike_i ?_); exact ⟨rfl, rfl, rfl⟩)
        | ((with_reducible refine fin_i ?_); (conv => whnf); refine ⟨rfl, ?_⟩)
        | refine ⟨⟨(srtS_len out).symm, by show (srtS out).length < _; rw [srtS_len]; omega⟩, ?_⟩
        | refine ⟨of_decide_eq_true rfl, ?_⟩
        | refine ⟨fun _ => of_decide_eq_true rfl, ?_⟩
        | ((with_reducible refine ⟨?_, ?_⟩); (focus (intros; simp_all; done)))
        | ((with_reducible refine ⟨?_, ?_⟩); (focus (intros; omega)))) <;> (try (conv => whnf)))
      all_goals ((with_reducible refine leaf_i ?_); (conv => whnf))
      repeat' ((with_reducible refine And.intro ?_ ?_) <;> (try (conv => whnf)))
      all_goals (try (first | with_reducible rfl | exact True.intro | rfl | exact id | exact fun h => h | exact fun _ => rfl))
      all_goals first | (rw [hl]; rfl) | trace_state
theorem compZ_take (l : List (El tS)) : ((compZ l).drop 0).take (comp l).length = comp l := by
  unfold compZ; simp
def k_leastV : Sig := .arg (shR tS) fun l => .done { pre := l.length ≤ 1000000, res := .rl true tS (comp (leastL l)) }
set_option maxHeartbeats 4000000 in
theorem c_leastV : FnOk Try.prog 26 k_leastV.con := by
  refine fnOkS mixed tys_ok (cs := [(16, k_rS.con), (36, k_hasA.con), (37, (sortSig tS 24 38 srtS).con), (39, k_comp.con)]) ⟨c_rS, c_hasA, c_sort, c_comp, trivial⟩ Try.func26 rfl (by kernel_rfl) Try.ntmps26 _ (h := ?_)
  intro l
  refine ⟨rfl, fun hp => ?_⟩
  have hp : l.length ≤ 1000000 := hp
  conv => whnf
  repeat' ((first
    | with_reducible refine ⟨fun h => h, ?_⟩
    | with_reducible refine ⟨pk1, ?_⟩
    | with_reducible refine ⟨pk2, ?_⟩
    | with_reducible refine ⟨pk3, ?_⟩
    | with_reducible refine ⟨pk4, ?_⟩
    | with_reducible refine ⟨pk5, ?_⟩
    | with_reducible refine ⟨pk6, ?_⟩
    | with_reducible refine ⟨trivial, ?_⟩
    | with_reducible refine ⟨fun _ => trivial, ?_⟩
    | with_reducible refine fork_t (by assumption) ?_
    | with_reducible refine fork_f (by assumption) ?_
    | refine fork_t rfl ?_
    | refine fork_f rfl ?_
    | with_reducible refine fork_i (fun h => ?_) (fun h => ?_)
    | with_reducible refine both_i ?_ ?_
    | ((with_reducible refine alike_i ?_); exact ⟨rfl, rfl, rfl⟩)
    | ((with_reducible refine fin_i ?_); (conv => whnf); refine ⟨rfl, ?_⟩)
    | refine ⟨of_decide_eq_true rfl, ?_⟩
    | refine ⟨fun _ => of_decide_eq_true rfl, ?_⟩
    | ((with_reducible refine ⟨?_, ?_⟩); (focus (intros; simp_all; done)))
    | ((with_reducible refine ⟨?_, ?_⟩); (focus (intros; omega)))) <;> (try (conv => whnf)))
  refine looped (σ := Nat × List (El tS)) (fun x => [(9, I x.1), (3, .ow 0 7 x.2.length)]) (fun x => [.row true tS 24 x.2]) (fun x => x.1 ≤ l.length ∧ x.2.length ≤ x.1 ∧ x.2 ++ (l.drop x.1).filter (staysS l) = l.filter (staysS l)) (fun x => l.length - x.1) (0, []) ⟨Nat.zero_le _, Nat.zero_le _, rfl⟩ ?_ ?_
  · conv => whnf
    refine ⟨rfl, leaf_i ?_⟩
    repeat' ((with_reducible refine And.intro ?_ ?_) <;> (try (conv => whnf)))
    all_goals (try (first | with_reducible rfl | exact True.intro | rfl | exact id | exact fun h => h | exact fun _ => rfl))
    all_goals trace_state
  · rintro ⟨j, out⟩ ⟨hj, ho, hl⟩
    dsimp only at hj ho hl ⊢
    conv => whnf
    repeat' ((first
      | with_reducible refine ⟨fun h => h, ?_⟩
      | with_reducible refine ⟨pk1, ?_⟩
      | with_reducible refine ⟨pk2, ?_⟩
      | with_reducible refine ⟨pk3, ?_⟩
      | with_reducible refine ⟨pk4, ?_⟩
      | with_reducible refine ⟨pk5, ?_⟩
      | with_reducible refine ⟨pk6, ?_⟩
      | with_reducible refine ⟨trivial, ?_⟩
      | with_reducible refine ⟨fun _ => trivial, ?_⟩
      | with_reducible refine fork_t (by assumption) ?_
      | with_reducible refine fork_f (by assumption) ?_
      | refine fork_t rfl ?_
      | refine fork_f rfl ?_
      | with_reducible refine fork_i (fun h => ?_) (fun h => ?_)
      | with_reducible refine both_i ?_ ?_
      | ((with_reducible refine alike_i ?_); exact ⟨rfl, rfl, rfl⟩)
      | ((with_reducible refine fin_i ?_); (conv => whnf); refine ⟨rfl, ?_⟩)
      | ((with_reducible refine ⟨?_, ?_⟩); (focus (rw [List.length_append, List.length_singleton]; omega)))
      | refine ⟨of_decide_eq_true rfl, ?_⟩
      | refine ⟨fun _ => of_decide_eq_true rfl, ?_⟩
      | ((with_reducible refine ⟨?_, ?_⟩); (focus (intros; simp_all; done)))
      | ((with_reducible refine ⟨?_, ?_⟩); (focus (intros; omega)))) <;> (try (conv => whnf)))
    · rename_i hb
      have hb := lt_t' hb
      have h : staysS l (getE tS l j) = true := h
      rw [drop_get' _ hb, List.filter_cons_of_pos h] at hl
      refine next_i (j + 1, out ++ [getE tS l j]) ⟨by dsimp only; omega, by dsimp only; rw [List.length_append, List.length_singleton]; omega, by dsimp only; rw [List.append_assoc]; exact hl⟩ (by dsimp only; omega) rfl rfl ?_
      conv => whnf
      refine ⟨rfl, leaf_i ?_⟩
      repeat' ((with_reducible refine And.intro ?_ ?_) <;> (try (conv => whnf)))
      all_goals (try (first | with_reducible rfl | exact True.intro | rfl | exact id | exact fun h => h | exact fun _ => rfl))
      all_goals first | exact wrapS' (by omega) | rfl | trace_state
    · rename_i hb
      have hb := lt_t' hb
      have h : staysS l (getE tS l j) = false := h
      rw [drop_get' _ hb, List.filter_cons_of_neg (by rw [h]; simp)] at hl
      refine next_i (j + 1, out) ⟨by dsimp only; omega, by dsimp only; omega, hl⟩ (by dsimp only; omega) rfl rfl ?_
      conv => whnf
      refine ⟨rfl, leaf_i ?_⟩
      repeat' ((with_reducible refine And.intro ?_ ?_) <;> (try (conv => whnf)))
      all_goals (try (first | with_reducible rfl | exact True.intro | rfl | exact id | exact fun h => h | exact fun _ => rfl))
      all_goals first | exact wrapS' (by omega) | rfl | trace_state
    · have hb := lt_f' h
      have hll : j = l.length := by omega
      rw [hll, List.drop_length, List.filter_nil, List.append_nil] at hl
      refine ⟨by show out.length < _; omega, ?_⟩
      (conv => whnf)
      conv => whnf
      repeat' ((first
        | with_reducible refine ⟨fun h => h, ?_⟩
        | with_reducible refine ⟨pk1, ?_⟩
        | with_reducible refine ⟨pk2, ?_⟩
        | with_reducible refine ⟨pk3, ?_⟩
        | with_reducible refine ⟨pk4, ?_⟩
        | with_reducible refine ⟨pk5, ?_⟩
        | with_reducible refine ⟨pk6, ?_⟩
        | with_reducible refine ⟨trivial, ?_⟩
        | with_reducible refine ⟨fun _ => trivial, ?_⟩
        | with_reducible refine fork_t (by assumption) ?_
        | with_reducible refine fork_f (by assumption) ?_
        | refine fork_t rfl ?_
        | refine fork_f rfl ?_
        | with_reducible refine fork_i (fun h => ?_) (fun h => ?_)
        | with_reducible refine both_i ?_ ?_
        | ((with_reducible refine alike_i ?_); exact ⟨rfl, rfl, rfl⟩)
        | ((with_reducible refine fin_i ?_); (conv => whnf); refine ⟨rfl, ?_⟩)
        | refine ⟨⟨(srtS_len out).symm, by show (srtS out).length < _; rw [srtS_len]; omega⟩, ?_⟩
        | refine ⟨of_decide_eq_true rfl, ?_⟩
        | refine ⟨fun _ => of_decide_eq_true rfl, ?_⟩
        | ((with_reducible refine ⟨?_, ?_⟩); (focus (intros; simp_all; done)))
        | ((with_reducible refine ⟨?_, ?_⟩); (focus (intros; omega)))) <;> (try (conv => whnf)))
      all_goals ((with_reducible refine leaf_i ?_); (conv => whnf))
      repeat' ((with_reducible refine And.intro ?_ ?_) <;> (try (conv => whnf)))
      all_goals (try (first | with_reducible rfl | exact True.intro | rfl | exact id | exact fun h => h | exact fun _ => rfl))
      all_goals first | (rw [hl]; exact compZ_take (leastL l)) | (rw [hl]; rfl) | trace_state
end Go.Proofs.Ythlkhjfilfdpiaa
