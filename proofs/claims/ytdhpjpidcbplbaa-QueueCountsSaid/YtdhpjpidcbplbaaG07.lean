/- Parts of the proof, joined: no conditions of their own. -/
import Derived.Test.YtdhpjpidcbplbaaG06
set_option linter.unusedVariables false
set_option linter.unusedSimpArgs false
/- Layer 17: the rows, sorted; how many batches. -/
namespace Go.Proofs.Ytdhpjpidcbplbaa
set_option maxRecDepth 100000
open Go Go.RowKit Go.Sort Go.Shelf Go.Proofs.Ytdhpjpidcbplbaa.Eng
def k_nan : Sig := .arg shI fun x => .done { pre := True, res := B false }
theorem c_nan : FnOk Try.prog 43 k_nan.con := by
  refine fnOkS mixed tys_ok (cs := []) trivial Try.func43 rfl (by kernel_rfl) Try.ntmps43 _ (h := ?_)
  intro x
  refine ⟨rfl, fun _ => ?_⟩
  conv => whnf
  repeat' ((first
    | with_reducible first | refine ⟨fun h => h, ?_⟩ | refine ⟨pk1, ?_⟩ | refine ⟨pk2, ?_⟩ | refine ⟨pk3, ?_⟩ | refine ⟨pk4, ?_⟩ | refine ⟨pk5, ?_⟩ | refine ⟨pk6, ?_⟩ | refine ⟨trivial, ?_⟩ | refine ⟨fun _ => trivial, ?_⟩ | refine ⟨rfl, ?_⟩ | refine every_i (fun hd => ?_) | refine everyN_i (fun k hk => ?_) | refine everyD_i (fun d hd => ?_) | refine fork_t (by assumption) ?_ | refine fork_f (by assumption) ?_
    | refine fork_t rfl ?_
    | refine fork_f rfl ?_
    | with_reducible first | refine fork_i (fun h => ?_) (fun h => ?_) | refine both_i ?_ ?_
    | ((with_reducible refine alike_i ?_); exact ⟨rfl, rfl, rfl⟩)
    | ((with_reducible refine fin_i ?_); (conv => whnf); refine ⟨rfl, ?_⟩)
    | refine ⟨of_decide_eq_true rfl, ?_⟩
    | refine ⟨fun _ => of_decide_eq_true rfl, ?_⟩
    | ((with_reducible refine ⟨?_, ?_⟩); (focus (intros; simp_all; done)))
    | ((with_reducible refine ⟨?_, ?_⟩); (focus (intros; omega)))) <;> (try (conv => whnf)))
  all_goals ((with_reducible refine leaf_i ?_); (conv => whnf))
  repeat' ((with_reducible refine And.intro ?_ ?_) <;> (try (conv => whnf)))
  all_goals (try (first | with_reducible rfl | exact True.intro | rfl | exact id | exact fun h => h | exact fun _ => rfl))
  all_goals simp
def k_cmp : Sig := .arg shI fun x => .arg shI fun y => .done { pre := True, res := I (cmpI x y) }
theorem c_cmp : FnOk Try.prog 31 k_cmp.con := by
  refine fnOkS mixed tys_ok (cs := [(43, k_nan.con)]) ⟨c_nan, trivial⟩ Try.func31 rfl (by kernel_rfl) Try.ntmps31 _ (h := ?_)
  intro x y
  refine ⟨rfl, fun _ => ?_⟩
  conv => whnf
  repeat' ((first
    | with_reducible first | refine ⟨fun h => h, ?_⟩ | refine ⟨pk1, ?_⟩ | refine ⟨pk2, ?_⟩ | refine ⟨pk3, ?_⟩ | refine ⟨pk4, ?_⟩ | refine ⟨pk5, ?_⟩ | refine ⟨pk6, ?_⟩ | refine ⟨trivial, ?_⟩ | refine ⟨fun _ => trivial, ?_⟩ | refine ⟨rfl, ?_⟩ | refine every_i (fun hd => ?_) | refine everyN_i (fun k hk => ?_) | refine everyD_i (fun d hd => ?_) | refine fork_t (by assumption) ?_ | refine fork_f (by assumption) ?_
    | refine fork_t rfl ?_
    | refine fork_f rfl ?_
    | with_reducible first | refine fork_i (fun h => ?_) (fun h => ?_) | refine both_i ?_ ?_
    | ((with_reducible refine alike_i ?_); exact ⟨rfl, rfl, rfl⟩)
    | ((with_reducible refine fin_i ?_); (conv => whnf); refine ⟨rfl, ?_⟩)
    | refine ⟨of_decide_eq_true rfl, ?_⟩
    | refine ⟨fun _ => of_decide_eq_true rfl, ?_⟩
    | ((with_reducible refine ⟨?_, ?_⟩); (focus (intros; simp_all; done)))
    | ((with_reducible refine ⟨?_, ?_⟩); (focus (intros; omega)))) <;> (try (conv => whnf)))
  all_goals ((with_reducible refine leaf_i ?_); (conv => whnf))
  repeat' ((with_reducible refine And.intro ?_ ?_) <;> (try (conv => whnf)))
  all_goals (try (first | with_reducible rfl | exact True.intro | rfl | exact id | exact fun h => h | exact fun _ => rfl))
  all_goals (simp at *; unfold cmpI; repeat' split)
  all_goals first | rfl | omega
def k_or : Sig := .arg (shR tI') fun l => .done { pre := l.length < 4611686018427387904, res := I (orI l) }
theorem c_or : FnOk Try.prog 30 k_or.con := by
  refine fnOkS mixed tys_ok (cs := []) trivial Try.func30 rfl (by kernel_rfl) Try.ntmps30 _ (h := ?_)
  intro l
  refine ⟨rfl, fun hp => ?_⟩
  conv => whnf
  repeat' ((first
    | with_reducible first | refine ⟨fun h => h, ?_⟩ | refine ⟨pk1, ?_⟩ | refine ⟨pk2, ?_⟩ | refine ⟨pk3, ?_⟩ | refine ⟨pk4, ?_⟩ | refine ⟨pk5, ?_⟩ | refine ⟨pk6, ?_⟩ | refine ⟨trivial, ?_⟩ | refine ⟨fun _ => trivial, ?_⟩ | refine ⟨rfl, ?_⟩ | refine every_i (fun hd => ?_) | refine everyN_i (fun k hk => ?_) | refine everyD_i (fun d hd => ?_) | refine fork_t (by assumption) ?_ | refine fork_f (by assumption) ?_
    | refine fork_t rfl ?_
    | refine fork_f rfl ?_
    | with_reducible first | refine fork_i (fun h => ?_) (fun h => ?_) | refine both_i ?_ ?_
    | ((with_reducible refine alike_i ?_); exact ⟨rfl, rfl, rfl⟩)
    | ((with_reducible refine fin_i ?_); (conv => whnf); refine ⟨rfl, ?_⟩)
    | refine ⟨of_decide_eq_true rfl, ?_⟩
    | refine ⟨fun _ => of_decide_eq_true rfl, ?_⟩
    | ((with_reducible refine ⟨?_, ?_⟩); (focus (intros; simp_all; done)))
    | ((with_reducible refine ⟨?_, ?_⟩); (focus (intros; omega)))) <;> (try (conv => whnf)))
  refine looped (σ := Nat) (fun j => [(8, I j)]) (fun _ => []) (fun j => j ≤ l.length ∧ orI (l.drop j) = orI l) (fun j => l.length - j) 0 ⟨Nat.zero_le _, rfl⟩ ?_ ?_
  · conv => whnf
    refine ⟨rfl, leaf_i ?_⟩
    repeat' ((with_reducible refine And.intro ?_ ?_) <;> (try (conv => whnf)))
    all_goals (try (first | with_reducible rfl | exact True.intro | rfl | exact id | exact fun h => h | exact fun _ => rfl))
  · rintro j ⟨hj, hl⟩
    dsimp only at hj hl ⊢
    conv => whnf
    repeat' ((first
      | with_reducible first | refine ⟨fun h => h, ?_⟩ | refine ⟨pk1, ?_⟩ | refine ⟨pk2, ?_⟩ | refine ⟨pk3, ?_⟩ | refine ⟨pk4, ?_⟩ | refine ⟨pk5, ?_⟩ | refine ⟨pk6, ?_⟩ | refine ⟨trivial, ?_⟩ | refine ⟨fun _ => trivial, ?_⟩ | refine ⟨rfl, ?_⟩ | refine every_i (fun hd => ?_) | refine everyN_i (fun k hk => ?_) | refine everyD_i (fun d hd => ?_) | refine fork_t (by assumption) ?_ | refine fork_f (by assumption) ?_
      | refine fork_t rfl ?_
      | refine fork_f rfl ?_
      | with_reducible first | refine fork_i (fun h => ?_) (fun h => ?_) | refine both_i ?_ ?_
      | ((with_reducible refine alike_i ?_); exact ⟨rfl, rfl, rfl⟩)
      | ((with_reducible refine fin_i ?_); (conv => whnf); refine ⟨rfl, ?_⟩)
      | refine ⟨of_decide_eq_true rfl, ?_⟩
      | refine ⟨fun _ => of_decide_eq_true rfl, ?_⟩
      | ((with_reducible refine ⟨?_, ?_⟩); (focus (intros; simp_all; done)))
      | ((with_reducible refine ⟨?_, ?_⟩); (focus (intros; omega)))) <;> (try (conv => whnf)))
    · rename_i hj'
      have hj' := lt_t' hj'
      have h : ((getE tI' l j).1 != 0) = true := h
      rw [drop_get' _ hj', orI, if_neg (by simpa using h)] at hl
      all_goals ((with_reducible refine leaf_i ?_); (conv => whnf))
      repeat' ((with_reducible refine And.intro ?_ ?_) <;> (try (conv => whnf)))
      all_goals (try (first | with_reducible rfl | exact True.intro | rfl | exact id | exact fun h => h | exact fun _ => rfl))
      all_goals first | exact hl | rfl
    · rename_i hj'
      have hj' := lt_t' hj'
      have h : ((getE tI' l j).1 != 0) = false := h
      rw [drop_get' _ hj', orI, if_pos (by simpa using h)] at hl
      refine next_i (j + 1) ⟨hj', hl⟩ (by omega) rfl rfl ?_
      conv => whnf
      refine ⟨rfl, leaf_i ?_⟩
      repeat' ((with_reducible refine And.intro ?_ ?_) <;> (try (conv => whnf)))
      all_goals (try (first | with_reducible rfl | exact True.intro | rfl | exact id | exact fun h => h | exact fun _ => rfl))
      all_goals first | exact wrapS' (Nat.lt_trans hj' hp) | rfl
    · have hj' := lt_f' h
      rw [List.drop_eq_nil_of_le hj', orI] at hl
      all_goals ((with_reducible refine leaf_i ?_); (conv => whnf))
      repeat' ((with_reducible refine And.intro ?_ ?_) <;> (try (conv => whnf)))
      all_goals (try (first | with_reducible rfl | exact True.intro | rfl | exact id | exact fun h => h | exact fun _ => rfl))
      all_goals first | exact hl | rfl
theorem c_order : FnOk Try.prog 29 (cmpSig tQ ordQ).con := by
  refine fnOkS mixed tys_ok (cs := [(31, k_cmp.con), (30, k_or.con)]) ⟨c_cmp, c_or, trivial⟩ Try.func29 rfl (by kernel_rfl) Try.ntmps29 _ (h := ?_)
  intro x y
  refine ⟨rfl, fun hp => ?_⟩
  conv => whnf
  repeat' ((first
    | with_reducible first | refine ⟨fun h => h, ?_⟩ | refine ⟨pk1, ?_⟩ | refine ⟨pk2, ?_⟩ | refine ⟨pk3, ?_⟩ | refine ⟨pk4, ?_⟩ | refine ⟨pk5, ?_⟩ | refine ⟨pk6, ?_⟩ | refine ⟨trivial, ?_⟩ | refine ⟨fun _ => trivial, ?_⟩ | refine ⟨rfl, ?_⟩ | refine every_i (fun hd => ?_) | refine everyN_i (fun k hk => ?_) | refine everyD_i (fun d hd => ?_) | refine fork_t (by assumption) ?_ | refine fork_f (by assumption) ?_
    | refine fork_t rfl ?_
    | refine fork_f rfl ?_
    | with_reducible first | refine fork_i (fun h => ?_) (fun h => ?_) | refine both_i ?_ ?_
    | ((with_reducible refine alike_i ?_); exact ⟨rfl, rfl, rfl⟩)
    | ((with_reducible refine fin_i ?_); (conv => whnf); refine ⟨rfl, ?_⟩)
    | refine ⟨of_decide_eq_true rfl, ?_⟩
    | refine ⟨fun _ => of_decide_eq_true rfl, ?_⟩
    | ((with_reducible refine ⟨?_, ?_⟩); (focus (intros; simp_all; done)))
    | ((with_reducible refine ⟨?_, ?_⟩); (focus (intros; omega)))) <;> (try (conv => whnf)))
  all_goals ((with_reducible refine leaf_i ?_); (conv => whnf))
  repeat' ((with_reducible refine And.intro ?_ ?_) <;> (try (conv => whnf)))
  all_goals (try (first | with_reducible rfl | exact True.intro | rfl | exact id | exact fun h => h | exact fun _ => rfl))
  all_goals (first | rfl | trace_state)
theorem isAgg_of {P : Program} {t : TypeId} {i : TI} (hi : TIok P t i) (h : i.ag = true) (w : World) : (isAgg t).run P w = .ok true w := by
  have hu := hi.ag
  cases hq : P.underlying t with
  | none => simp [hq] at hu
  | some d =>
    have : d.isRow = true := by simpa [hq, h] using hu
    unfold isAgg
    rw [Sem.run_bind, run_underlying hq w]
    cases d <;> simp_all [TypeDesc.isRow]
theorem c_sort : FnOk Try.prog 41 (sortSig tQ tyE 29 srtQ).con := by
  obtain ⟨i, hi⟩ : ∃ i, tyOf tys tyE = some i := ⟨_, rfl⟩
  have hT := allTy_ok tys tys_ok _ i hi
  have ha : i.ag = true := by injection hi with hi; subst hi; rfl
  have hz : i.sz = tsz tQ := by injection hi with hi; subst hi; rfl
  refine fnOk_sort sortLay rfl tyE (isAgg_of hT ha) (fun w => by have := Eng.run_sizeOf hT w; rw [hz] at this; exact this) 29 ordQ ordQ_swo ordQ_parts (fun args w => rfl) c_order rfl ⟨_, Try.func41, by kernel_rfl, ?_⟩
  decide +kernel
def k_keys : Sig := .arg (Sh.mk' (gMp 0) (fun _ => .mp 0) fun _ _ h => gMp_ok h) fun _ => .obj shM fun m => .done { pre := True, res := .fn fK1 (.cons (.ptr 1 0) .nil), lent := [aoM m], new := [.cells (.cons (.mp 0) .nil)] }
theorem c_keys : FnOk Try.prog 28 k_keys.con := by
  refine fnOkS mixed tys_ok (cs := []) trivial Try.func28 rfl (by kernel_rfl) Try.ntmps28 _ (h := ?_)
  intro u m
  refine ⟨rfl, fun hp => ?_⟩
  conv => whnf
  repeat' ((first
    | with_reducible first | refine ⟨fun h => h, ?_⟩ | refine ⟨pk1, ?_⟩ | refine ⟨pk2, ?_⟩ | refine ⟨pk3, ?_⟩ | refine ⟨pk4, ?_⟩ | refine ⟨pk5, ?_⟩ | refine ⟨pk6, ?_⟩ | refine ⟨trivial, ?_⟩ | refine ⟨fun _ => trivial, ?_⟩ | refine ⟨rfl, ?_⟩ | refine every_i (fun hd => ?_) | refine everyN_i (fun k hk => ?_) | refine everyD_i (fun d hd => ?_) | refine fork_t (by assumption) ?_ | refine fork_f (by assumption) ?_
    | refine fork_t rfl ?_
    | refine fork_f rfl ?_
    | with_reducible first | refine fork_i (fun h => ?_) (fun h => ?_) | refine both_i ?_ ?_
    | ((with_reducible refine alike_i ?_); exact ⟨rfl, rfl, rfl⟩)
    | ((with_reducible refine fin_i ?_); (conv => whnf); refine ⟨rfl, ?_⟩)
    | refine ⟨of_decide_eq_true rfl, ?_⟩
    | refine ⟨fun _ => of_decide_eq_true rfl, ?_⟩
    | ((with_reducible refine ⟨?_, ?_⟩); (focus (intros; simp_all; done)))
    | ((with_reducible refine ⟨?_, ?_⟩); (focus (intros; omega)))) <;> (try (conv => whnf)))
  all_goals ((with_reducible refine leaf_i ?_); (conv => whnf))
  repeat' ((with_reducible refine And.intro ?_ ?_) <;> (try (conv => whnf)))
  all_goals (try (first | with_reducible rfl | exact True.intro | rfl | exact id | exact fun h => h | exact fun _ => rfl))
def k_collect : SigD := .arg (shFn1 fK1 0 0) fun _ => .obj (shCM 1) fun _ => .obj shM fun m =>
  .done { pre := m.length ≤ 1000000000, d0 := List.range m.length, ok := fun d => d.Perm (List.range m.length), out := fun d => { pre := True, res := .ow 2 3 m.length, lent := [aoC, aoM m], new := [.row true tQ tyE (keysP m d)] } }
theorem c_collect : FnOkD Try.prog 40 k_collect.conD := by
  refine fnOkSD mixed tys_ok (cs := []) trivial Try.func40 rfl (by kernel_rfl) Try.ntmps40 _ (csd := [(45, k_seq.conD)]) (hD := ⟨c_seq, trivial⟩) (h := ?_)
  intro u u2 m
  refine ⟨rfl, fun hp => ?_⟩
  conv => whnf
  repeat' ((first
    | with_reducible first | refine ⟨fun h => h, ?_⟩ | refine ⟨pk1, ?_⟩ | refine ⟨pk2, ?_⟩ | refine ⟨pk3, ?_⟩ | refine ⟨pk4, ?_⟩ | refine ⟨pk5, ?_⟩ | refine ⟨pk6, ?_⟩ | refine ⟨trivial, ?_⟩ | refine ⟨fun _ => trivial, ?_⟩ | refine ⟨rfl, ?_⟩ | refine every_i (fun hd => ?_) | refine everyN_i (fun k hk => ?_) | refine everyD_i (fun d hd => ?_) | refine fork_t (by assumption) ?_ | refine fork_f (by assumption) ?_
    | refine fork_t rfl ?_
    | refine fork_f rfl ?_
    | with_reducible first | refine fork_i (fun h => ?_) (fun h => ?_) | refine both_i ?_ ?_
    | ((with_reducible refine alike_i ?_); exact ⟨rfl, rfl, rfl⟩)
    | ((with_reducible refine fin_i ?_); (conv => whnf); refine ⟨rfl, ?_⟩)
    | refine ⟨hp, ?_⟩
    | refine ⟨List.Perm.refl _, ?_⟩
    | refine ⟨of_decide_eq_true rfl, ?_⟩
    | refine ⟨fun _ => of_decide_eq_true rfl, ?_⟩
    | ((with_reducible refine ⟨?_, ?_⟩); (focus (intros; simp_all; done)))
    | ((with_reducible refine ⟨?_, ?_⟩); (focus (intros; omega)))) <;> (try (conv => whnf)))
  refine finD_i d hd ?_
  (conv => whnf)
  conv => whnf
  repeat' ((first
    | with_reducible first | refine ⟨fun h => h, ?_⟩ | refine ⟨pk1, ?_⟩ | refine ⟨pk2, ?_⟩ | refine ⟨pk3, ?_⟩ | refine ⟨pk4, ?_⟩ | refine ⟨pk5, ?_⟩ | refine ⟨pk6, ?_⟩ | refine ⟨trivial, ?_⟩ | refine ⟨fun _ => trivial, ?_⟩ | refine ⟨rfl, ?_⟩ | refine every_i (fun hd => ?_) | refine everyN_i (fun k hk => ?_) | refine everyD_i (fun d hd => ?_) | refine fork_t (by assumption) ?_ | refine fork_f (by assumption) ?_
    | refine fork_t rfl ?_
    | refine fork_f rfl ?_
    | with_reducible first | refine fork_i (fun h => ?_) (fun h => ?_) | refine both_i ?_ ?_
    | ((with_reducible refine alike_i ?_); exact ⟨rfl, rfl, rfl⟩)
    | ((with_reducible refine fin_i ?_); (conv => whnf); refine ⟨rfl, ?_⟩)
    | refine ⟨of_decide_eq_true rfl, ?_⟩
    | refine ⟨fun _ => of_decide_eq_true rfl, ?_⟩
    | ((with_reducible refine ⟨?_, ?_⟩); (focus (intros; simp_all; done)))
    | ((with_reducible refine ⟨?_, ?_⟩); (focus (intros; omega)))) <;> (try (conv => whnf)))
  all_goals ((with_reducible refine leaf_i ?_); (conv => whnf))
  repeat' ((with_reducible refine And.intro ?_ ?_) <;> (try (conv => whnf)))
  all_goals (try (first | with_reducible rfl | exact True.intro | rfl | exact id | exact fun h => h | exact fun _ => rfl))
  all_goals trace_state
theorem keysP_perm {m : QM} {d : List Nat} (h : d.Perm (List.range m.length)) : (keysP m d).Perm (m.map (·.1)) := by
  have h3 := h.map fun i => (m.getD i ((0, 0, 0, ()), ([], ()))).1
  have h4 : ((List.range m.length).map fun i => (m.getD i ((0, 0, 0, ()), ([], ()))).1) = m.map (·.1) := by
    apply List.ext_getElem?
    intro j
    by_cases hj : j < m.length
    · rw [List.getElem?_map, List.getElem?_range hj, List.getElem?_map, List.getElem?_eq_getElem hj]
      simp [List.getD_eq_getElem?_getD, List.getElem?_eq_getElem hj]
    · rw [List.getElem?_eq_none (by simp; omega), List.getElem?_eq_none (by simp; omega)]
  rw [h4] at h3
  exact h3
def k_sorted : Sig := .arg (shFn1 fK1 0 0) fun _ => .arg (shF 29) fun _ => .obj (shCM 1) fun _ => .obj shM fun m =>
  .done { pre := m.length ≤ 1000000000, res := .ow 2 3 m.length, lent := [aoC, aoM m], new := [.row true tQ tyE (rowsQ m)] }
theorem c_sorted : FnOk Try.prog 27 k_sorted.con := by
  refine fnOkS mixed tys_ok (cs := [(41, (sortSig tQ tyE 29 srtQ).con)]) ⟨c_sort, trivial⟩ Try.func27 rfl (by kernel_rfl) Try.ntmps27 _ (csd := [(40, k_collect.conD)]) (hD := ⟨c_collect, trivial⟩) (h := ?_)
  intro u u1 u2 m
  refine ⟨rfl, fun hp => ?_⟩
  have hp' : m.length ≤ 1000000000 := hp
  conv => whnf
  repeat' ((first
    | with_reducible first | refine ⟨fun h => h, ?_⟩ | refine ⟨pk1, ?_⟩ | refine ⟨pk2, ?_⟩ | refine ⟨pk3, ?_⟩ | refine ⟨pk4, ?_⟩ | refine ⟨pk5, ?_⟩ | refine ⟨pk6, ?_⟩ | refine ⟨trivial, ?_⟩ | refine ⟨fun _ => trivial, ?_⟩ | refine ⟨rfl, ?_⟩ | refine every_i (fun hd => ?_) | refine everyN_i (fun k hk => ?_) | refine everyD_i (fun d hd => ?_) | refine fork_t (by assumption) ?_ | refine fork_f (by assumption) ?_
    | refine fork_t rfl ?_
    | refine fork_f rfl ?_
    | with_reducible first | refine fork_i (fun h => ?_) (fun h => ?_) | refine both_i ?_ ?_
    | ((with_reducible refine alike_i ?_); exact ⟨rfl, rfl, rfl⟩)
    | ((with_reducible refine fin_i ?_); (conv => whnf); refine ⟨rfl, ?_⟩)
    | refine ⟨hp, ?_⟩
    | refine ⟨List.Perm.refl _, ?_⟩
    | refine ⟨of_decide_eq_true rfl, ?_⟩
    | refine ⟨fun _ => of_decide_eq_true rfl, ?_⟩
    | ((with_reducible refine ⟨?_, ?_⟩); (focus (intros; simp_all; done)))
    | ((with_reducible refine ⟨?_, ?_⟩); (focus (intros; omega)))) <;> (try (conv => whnf)))
  have hd' : d.Perm (List.range m.length) := hd
  have hkl : (keysP m d).length = m.length := by unfold keysP; rw [List.length_map]; simpa using hd'.length_eq
  refine ⟨by show (keysP m d).length < _; rw [hkl]; omega, ?_⟩
  conv => whnf
  repeat' ((first
    | with_reducible first | refine ⟨fun h => h, ?_⟩ | refine ⟨pk1, ?_⟩ | refine ⟨pk2, ?_⟩ | refine ⟨pk3, ?_⟩ | refine ⟨pk4, ?_⟩ | refine ⟨pk5, ?_⟩ | refine ⟨pk6, ?_⟩ | refine ⟨trivial, ?_⟩ | refine ⟨fun _ => trivial, ?_⟩ | refine ⟨rfl, ?_⟩ | refine every_i (fun hd => ?_) | refine everyN_i (fun k hk => ?_) | refine everyD_i (fun d hd => ?_) | refine fork_t (by assumption) ?_ | refine fork_f (by assumption) ?_
    | refine fork_t rfl ?_
    | refine fork_f rfl ?_
    | with_reducible first | refine fork_i (fun h => ?_) (fun h => ?_) | refine both_i ?_ ?_
    | ((with_reducible refine alike_i ?_); exact ⟨rfl, rfl, rfl⟩)
    | ((with_reducible refine fin_i ?_); (conv => whnf); refine ⟨rfl, ?_⟩)
    | refine ⟨of_decide_eq_true rfl, ?_⟩
    | refine ⟨fun _ => of_decide_eq_true rfl, ?_⟩
    | ((with_reducible refine ⟨?_, ?_⟩); (focus (intros; simp_all; done)))
    | ((with_reducible refine ⟨?_, ?_⟩); (focus (intros; omega)))) <;> (try (conv => whnf)))
  all_goals ((with_reducible refine leaf_i ?_); (conv => whnf))
  repeat' ((with_reducible refine And.intro ?_ ?_) <;> (try (conv => whnf)))
  all_goals (try (first | with_reducible rfl | exact True.intro | rfl | exact id | exact fun h => h | exact fun _ => rfl))
  all_goals first | exact (srtQ_eq (keysP_perm hd')).trans (isrtQ_eq _) | trace_state
def k_rows : Sig := .arg (shPtr 0 0) fun _ => .obj (shCM 1) fun _ => .obj shM fun m =>
  .done { pre := m.length ≤ 1000000000, res := .ow 2 3 m.length, lent := [aoC, aoM m], new := [.row true tQ tyE (rowsQ m)] }
theorem c_rows : FnOk Try.prog 15 k_rows.con := by
  refine fnOkS mixed tys_ok (cs := [(28, k_keys.con), (27, k_sorted.con)]) ⟨c_keys, c_sorted, trivial⟩ Try.func15 rfl (by kernel_rfl) Try.ntmps15 _ (h := ?_)
  intro u u2 m
  refine ⟨rfl, fun hp => ?_⟩
  conv => whnf
  repeat' ((first
    | with_reducible first | refine ⟨fun h => h, ?_⟩ | refine ⟨pk1, ?_⟩ | refine ⟨pk2, ?_⟩ | refine ⟨pk3, ?_⟩ | refine ⟨pk4, ?_⟩ | refine ⟨pk5, ?_⟩ | refine ⟨pk6, ?_⟩ | refine ⟨trivial, ?_⟩ | refine ⟨fun _ => trivial, ?_⟩ | refine ⟨rfl, ?_⟩ | refine every_i (fun hd => ?_) | refine everyN_i (fun k hk => ?_) | refine everyD_i (fun d hd => ?_) | refine fork_t (by assumption) ?_ | refine fork_f (by assumption) ?_
    | refine fork_t rfl ?_
    | refine fork_f rfl ?_
    | with_reducible first | refine fork_i (fun h => ?_) (fun h => ?_) | refine both_i ?_ ?_
    | ((with_reducible refine alike_i ?_); exact ⟨rfl, rfl, rfl⟩)
    | ((with_reducible refine fin_i ?_); (conv => whnf); refine ⟨rfl, ?_⟩)
    | refine ⟨hp, ?_⟩
    | refine ⟨of_decide_eq_true rfl, ?_⟩
    | refine ⟨fun _ => of_decide_eq_true rfl, ?_⟩
    | ((with_reducible refine ⟨?_, ?_⟩); (focus (intros; simp_all; done)))
    | ((with_reducible refine ⟨?_, ?_⟩); (focus (intros; omega)))) <;> (try (conv => whnf)))
  all_goals ((with_reducible refine leaf_i ?_); (conv => whnf))
  repeat' ((with_reducible refine And.intro ?_ ?_) <;> (try (conv => whnf)))
  all_goals (try (first | with_reducible rfl | exact True.intro | rfl | exact id | exact fun h => h | exact fun _ => rfl))
  all_goals trace_state
theorem take_get {t : Ty} (l : List (El t)) {j : Nat} (h : j < l.length) : l.take (j + 1) = l.take j ++ [getE t l j] := by
  rw [List.take_succ_eq_append_getElem h]
  congr 2
  unfold getE
  simp [List.getD_eq_getElem?_getD, h]
theorem lenQ_take {m : QM} {l : List Rw} {j : Nat} (h : j < l.length) : lenQ m (l.take (j + 1)) = lenQ m (l.take j) + (getQ m (getE tQ l j)).length := by
  have := take_get l h
  unfold lenQ
  rw [this]
  simp
def k_len : Sig := .arg (shPtr 0 0) fun _ => .obj (shCM 1) fun _ => .obj shM fun m =>
  .done { pre := m.length ≤ 1000000000 ∧ lenQ m (rowsQ m) ≤ 1000000000, res := I (lenQ m (rowsQ m)), lent := [aoC, aoM m] }
theorem lenQ_le {m : QM} {l : List Rw} {j : Nat} : lenQ m (l.take j) ≤ lenQ m l := by
  unfold lenQ
  conv => rhs; rw [← List.take_append_drop j l]
  rw [List.map_append, List.sum_append]; omega
set_option maxHeartbeats 2000000 in
theorem c_len : FnOk Try.prog 14 k_len.con := by
  refine fnOkS mixed tys_ok (cs := [(15, k_rows.con)]) ⟨c_rows, trivial⟩ Try.func14 rfl (by kernel_rfl) Try.ntmps14 _ (h := ?_)
  intro u u2 m
  refine ⟨rfl, fun hp => ?_⟩
  obtain ⟨hp1, hp2⟩ := hp
  have hrl : (rowsQ m).length = m.length := by unfold rowsQ; rw [isrtQ_len, List.length_map]
  conv => whnf
  repeat' ((first
    | with_reducible first | refine ⟨fun h => h, ?_⟩ | refine ⟨pk1, ?_⟩ | refine ⟨pk2, ?_⟩ | refine ⟨pk3, ?_⟩ | refine ⟨pk4, ?_⟩ | refine ⟨pk5, ?_⟩ | refine ⟨pk6, ?_⟩ | refine ⟨trivial, ?_⟩ | refine ⟨fun _ => trivial, ?_⟩ | refine ⟨rfl, ?_⟩ | refine every_i (fun hd => ?_) | refine everyN_i (fun k hk => ?_) | refine everyD_i (fun d hd => ?_) | refine fork_t (by assumption) ?_ | refine fork_f (by assumption) ?_
    | refine fork_t rfl ?_
    | refine fork_f rfl ?_
    | with_reducible first | refine fork_i (fun h => ?_) (fun h => ?_) | refine both_i ?_ ?_
    | ((with_reducible refine alike_i ?_); exact ⟨rfl, rfl, rfl⟩)
    | ((with_reducible refine fin_i ?_); (conv => whnf); refine ⟨rfl, ?_⟩)
    | refine ⟨hp1, ?_⟩
    | refine ⟨of_decide_eq_true rfl, ?_⟩
    | refine ⟨fun _ => of_decide_eq_true rfl, ?_⟩
    | ((with_reducible refine ⟨?_, ?_⟩); (focus (intros; simp_all; done)))
    | ((with_reducible refine ⟨?_, ?_⟩); (focus (intros; omega)))) <;> (try (conv => whnf)))
  refine only [0, 7, 8] ?_
  (conv => whnf)
  refine looped (σ := Nat) (fun j => [(9, I j), (3, I (lenQ m ((rowsQ m).take j)))]) (fun j => [aoC, aoM m, .row true tQ tyE (rowsQ m)]) (fun j => j ≤ (rowsQ m).length) (fun j => (rowsQ m).length - j) 0 (Nat.zero_le _) ?_ ?_
  · conv => whnf
    refine ⟨rfl, leaf_i ?_⟩
    repeat' ((with_reducible refine And.intro ?_ ?_) <;> (try (conv => whnf)))
    all_goals (try (first | with_reducible rfl | exact True.intro | rfl | exact id | exact fun h => h | exact fun _ => rfl))
    all_goals trace_state
  · rintro j hj
    dsimp only at hj ⊢
    conv => whnf
    repeat' ((first
      | with_reducible first | refine ⟨fun h => h, ?_⟩ | refine ⟨pk1, ?_⟩ | refine ⟨pk2, ?_⟩ | refine ⟨pk3, ?_⟩ | refine ⟨pk4, ?_⟩ | refine ⟨pk5, ?_⟩ | refine ⟨pk6, ?_⟩ | refine ⟨trivial, ?_⟩ | refine ⟨fun _ => trivial, ?_⟩ | refine ⟨rfl, ?_⟩ | refine every_i (fun hd => ?_) | refine everyN_i (fun k hk => ?_) | refine everyD_i (fun d hd => ?_) | refine fork_t (by assumption) ?_ | refine fork_f (by assumption) ?_
      | refine fork_t rfl ?_
      | refine fork_f rfl ?_
      | with_reducible first | refine fork_i (fun h => ?_) (fun h => ?_) | refine both_i ?_ ?_
      | ((with_reducible refine alike_i ?_); exact ⟨rfl, rfl, rfl⟩)
      | ((with_reducible refine fin_i ?_); (conv => whnf); refine ⟨rfl, ?_⟩)
      | refine ⟨of_decide_eq_true rfl, ?_⟩
      | refine ⟨fun _ => of_decide_eq_true rfl, ?_⟩
      | ((with_reducible refine ⟨?_, ?_⟩); (focus (intros; simp_all; done)))
      | ((with_reducible refine ⟨?_, ?_⟩); (focus (intros; omega)))) <;> (try (conv => whnf)))
    · have hj' : j < (rowsQ m).length := by rw [hrl]; exact lt_t' (by assumption)
      refine next_i (j + 1) hj' (by omega) rfl rfl ?_
      conv => whnf
      refine ⟨rfl, leaf_i ?_⟩
      repeat' ((with_reducible refine And.intro ?_ ?_) <;> (try (conv => whnf)))
      all_goals (try (first | with_reducible rfl | exact True.intro | rfl | exact id | exact fun h => h | exact fun _ => rfl))
      all_goals first
        | exact wrapS' (by omega)
        | (have h1 := lenQ_take (m := m) hj'
           have h2 := lenQ_le (m := m) (l := rowsQ m) (j := j + 1)
           show IntKind.i64.wrap ((lenQ m ((rowsQ m).take j) : Int) + ((getQ m (getE tQ (rowsQ m) j)).length : Int)) = _
           rw [h1, Int.natCast_add]
           exact wrapI (by omega) (by omega))
        | trace_state
    · have hj' : (rowsQ m).length ≤ j := by rw [hrl]; exact lt_f' (by assumption)
      all_goals ((with_reducible refine leaf_i ?_); (conv => whnf))
      repeat' ((with_reducible refine And.intro ?_ ?_) <;> (try (conv => whnf)))
      all_goals (try (first | with_reducible rfl | exact True.intro | rfl | exact id | exact fun h => h | exact fun _ => rfl))
      all_goals first | rw [List.take_of_length_le hj'] | trace_state
def k_all : Sig := .arg (shPtr 0 0) fun _ => .arg (shT tQ) fun r => .obj (shCM 1) fun _ => .obj shM fun m =>
  .done { pre := (getQ m r).length ≤ 1000000000 ∧ ∀ b ∈ getQ m r, (recsB b).length ≤ 1000000000, res := .rl true tB (getQ m r), lent := [aoC, aoM m] }
set_option maxHeartbeats 2000000 in
theorem c_all : FnOk Try.prog 16 k_all.con := by
  refine fnOkS mixed tys_ok (cs := [(24, k_own.con)]) ⟨c_own, trivial⟩ Try.func16 rfl (by kernel_rfl) Try.ntmps16 _ (h := ?_)
  rintro u ⟨r1, r2, r3, ⟨⟩⟩ u2 m
  refine ⟨rfl, fun hp => ?_⟩
  obtain ⟨hp1, hp2⟩ := hp
  have hp1 : (getQ m (r1, r2, r3, ())).length ≤ 1000000000 := hp1
  have hp2 : ∀ b ∈ getQ m (r1, r2, r3, ()), (recsB b).length ≤ 1000000000 := hp2
  conv => whnf
  repeat' ((first
    | with_reducible first | refine ⟨fun h => h, ?_⟩ | refine ⟨pk1, ?_⟩ | refine ⟨pk2, ?_⟩ | refine ⟨pk3, ?_⟩ | refine ⟨pk4, ?_⟩ | refine ⟨pk5, ?_⟩ | refine ⟨pk6, ?_⟩ | refine ⟨trivial, ?_⟩ | refine ⟨fun _ => trivial, ?_⟩ | refine ⟨rfl, ?_⟩ | refine every_i (fun hd => ?_) | refine everyN_i (fun k hk => ?_) | refine everyD_i (fun d hd => ?_) | refine fork_t (by assumption) ?_ | refine fork_f (by assumption) ?_
    | refine fork_t rfl ?_
    | refine fork_f rfl ?_
    | with_reducible first | refine fork_i (fun h => ?_) (fun h => ?_) | refine both_i ?_ ?_
    | ((with_reducible refine alike_i ?_); exact ⟨rfl, rfl, rfl⟩)
    | ((with_reducible refine fin_i ?_); (conv => whnf); refine ⟨rfl, ?_⟩)
    | refine ⟨of_decide_eq_true rfl, ?_⟩
    | refine ⟨fun _ => of_decide_eq_true rfl, ?_⟩
    | ((with_reducible refine ⟨?_, ?_⟩); (focus (intros; simp_all; done)))
    | ((with_reducible refine ⟨?_, ?_⟩); (focus (intros; omega)))) <;> (try (conv => whnf)))
  refine only [16, 15] ?_
  (conv => whnf)
  have h3 : ∀ j : Nat, decide ((j : Int) < ((getQ m (r1, r2, r3, ())).length : Int)) = true → (recsB (getE tB (getQ m (r1, r2, r3, ())) j)).length ≤ 1000000000 := fun j h => hp2 _ (getE_mem _ (lt_t' h))
  have h4 : ∀ (j : Nat) (x : Ba), decide ((j : Int) < ((getQ m (r1, r2, r3, ())).length : Int)) = true → ((getQ m (r1, r2, r3, ())).take j ++ [x]).length ≤ 1000000000 := fun j x h => by
    have := lt_t' h
    rw [List.length_append, List.length_take, List.length_cons, List.length_nil]; omega
  refine looped (σ := Nat) (fun j => [(17, I j), (5, .ow 3 6 j)]) (fun j => [aoC, aoM m, .cells (.cons (I r1) (.cons (I r2) (.cons (I r3) .nil))), .row true tB 35 ((getQ m (r1, r2, r3, ())).take j)]) (fun j => j ≤ (getQ m (r1, r2, r3, ())).length) (fun j => (getQ m (r1, r2, r3, ())).length - j) 0 (Nat.zero_le _) ?_ ?_
  · conv => whnf
    refine ⟨rfl, leaf_i ?_⟩
    repeat' ((with_reducible refine And.intro ?_ ?_) <;> (try (conv => whnf)))
    all_goals (try (first | with_reducible rfl | exact True.intro | rfl | exact id | exact fun h => h | exact fun _ => rfl))
    all_goals trace_state
  · rintro j hj
    dsimp only at hj ⊢
    conv => whnf
    repeat' ((first
      | with_reducible first | refine ⟨fun h => h, ?_⟩ | refine ⟨pk1, ?_⟩ | refine ⟨pk2, ?_⟩ | refine ⟨pk3, ?_⟩ | refine ⟨pk4, ?_⟩ | refine ⟨pk5, ?_⟩ | refine ⟨pk6, ?_⟩ | refine ⟨trivial, ?_⟩ | refine ⟨fun _ => trivial, ?_⟩ | refine ⟨rfl, ?_⟩ | refine every_i (fun hd => ?_) | refine everyN_i (fun k hk => ?_) | refine everyD_i (fun d hd => ?_) | refine fork_t (by assumption) ?_ | refine fork_f (by assumption) ?_
      | refine fork_t rfl ?_
      | refine fork_f rfl ?_
      | with_reducible first | refine fork_i (fun h => ?_) (fun h => ?_) | refine both_i ?_ ?_
      | ((with_reducible refine alike_i ?_); exact ⟨rfl, rfl, rfl⟩)
      | ((with_reducible refine fin_i ?_); (conv => whnf); refine ⟨rfl, ?_⟩)
      | refine ⟨h3 _ (by assumption), ?_⟩
      | refine ⟨h4 _ _ (by assumption), ?_⟩
      | refine ⟨of_decide_eq_true rfl, ?_⟩
      | refine ⟨fun _ => of_decide_eq_true rfl, ?_⟩
      | ((with_reducible refine ⟨?_, ?_⟩); (focus (intros; simp_all; done)))
      | ((with_reducible refine ⟨?_, ?_⟩); (focus (intros; omega)))) <;> (try (conv => whnf)))
    · have hj' : j < (getQ m (r1, r2, r3, ())).length := lt_t' (by assumption)
      refine next_i (j + 1) hj' (by omega) rfl rfl ?_
      conv => whnf
      refine ⟨rfl, leaf_i ?_⟩
      repeat' ((with_reducible refine And.intro ?_ ?_) <;> (try (conv => whnf)))
      all_goals (try (first | with_reducible rfl | exact True.intro | rfl | exact id | exact fun h => h | exact fun _ => rfl))
      all_goals first
        | exact wrapS' (by omega)
        | (rw [take_get _ hj']; done)
        | (rw [take_get _ hj']; rfl)
        | (rw [List.length_append, List.length_take]; simp; omega)
        | trace_state
    · have hj' : (getQ m (r1, r2, r3, ())).length ≤ j := lt_f' (by assumption)
      all_goals ((with_reducible refine leaf_i ?_); (conv => whnf))
      repeat' ((with_reducible refine And.intro ?_ ?_) <;> (try (conv => whnf)))
      all_goals (try (first | with_reducible rfl | exact True.intro | rfl | exact id | exact fun h => h | exact fun _ => rfl))
      all_goals first | rw [List.take_of_length_le hj'] | trace_state
end Go.Proofs.Ytdhpjpidcbplbaa

/- Layer 17: are two batches the same? The statements' small functions; works. -/
namespace Go.Proofs.Ytdhpjpidcbplbaa
set_option maxRecDepth 100000
open Go Go.RowKit Go.Proofs.Ytdhpjpidcbplbaa.Eng
def k_same : Sig := .arg (shR tR) fun a => .arg (shR tR) fun b => .done { pre := a.length < 4611686018427387904, res := B (sameR a b) }
set_option maxHeartbeats 4000000 in
theorem c_same : FnOk Try.prog 32 k_same.con := by
  refine fnOkS mixed tys_ok (cs := []) trivial Try.func32 rfl (by kernel_rfl) Try.ntmps32 _ (h := ?_)
  intro l m
  refine ⟨rfl, fun hp => ?_⟩
  have hp' : l.length < 4611686018427387904 := hp
  conv => whnf
  repeat' ((first
    | with_reducible first | refine ⟨fun h => h, ?_⟩ | refine ⟨pk1, ?_⟩ | refine ⟨pk2, ?_⟩ | refine ⟨pk3, ?_⟩ | refine ⟨pk4, ?_⟩ | refine ⟨pk5, ?_⟩ | refine ⟨pk6, ?_⟩ | refine ⟨trivial, ?_⟩ | refine ⟨fun _ => trivial, ?_⟩ | refine ⟨rfl, ?_⟩ | refine every_i (fun hd => ?_) | refine everyN_i (fun k hk => ?_) | refine everyD_i (fun d hd => ?_) | refine fork_t (by assumption) ?_ | refine fork_f (by assumption) ?_
    | refine fork_t rfl ?_
    | refine fork_f rfl ?_
    | with_reducible first | refine fork_i (fun h => ?_) (fun h => ?_) | refine both_i ?_ ?_
    | ((with_reducible refine alike_i ?_); exact ⟨rfl, rfl, rfl⟩)
    | ((with_reducible refine fin_i ?_); (conv => whnf); refine ⟨rfl, ?_⟩)
    | refine ⟨of_decide_eq_true rfl, ?_⟩
    | refine ⟨fun _ => of_decide_eq_true rfl, ?_⟩
    | ((with_reducible refine ⟨?_, ?_⟩); (focus (intros; simp_all; done)))
    | ((with_reducible refine ⟨?_, ?_⟩); (focus (intros; omega)))) <;> (try (conv => whnf)))
  · have hn : l.length ≠ m.length := by
      intro e
      have h : ((l.length : Int) != (m.length : Int)) = true := h
      rw [e] at h; simp at h
    all_goals ((with_reducible refine leaf_i ?_); (conv => whnf))
    repeat' ((with_reducible refine And.intro ?_ ?_) <;> (try (conv => whnf)))
    all_goals (try (first | with_reducible rfl | exact True.intro | rfl | exact id | exact fun h => h | exact fun _ => rfl))
    all_goals (rw [sameR_len hn])
  · have hn : l.length = m.length := by
      have h : ((l.length : Int) != (m.length : Int)) = false := h
      have h2 : (l.length : Int) = m.length := by simpa using h
      omega
    refine looped (σ := Nat) (fun j => [(5, I j)]) (fun _ => []) (fun j => j ≤ l.length ∧ sameR (l.drop j) (m.drop j) = sameR l m) (fun j => l.length - j) 0 ⟨Nat.zero_le _, rfl⟩ ?_ ?_
    · conv => whnf
      refine ⟨rfl, leaf_i ?_⟩
      repeat' ((with_reducible refine And.intro ?_ ?_) <;> (try (conv => whnf)))
      all_goals (try (first | with_reducible rfl | exact True.intro | rfl | exact id | exact fun h => h | exact fun _ => rfl))
    · rintro j ⟨hj, hl⟩
      dsimp only at hj hl ⊢
      have hi : decide ((j : Int) < (l.length : Int)) = true → 0 ≤ (j : Int) ∧ (j : Int) < (m.length : Int) := fun h => by have := lt_t' h; omega
      conv => whnf
      repeat' ((first
        | with_reducible first | refine ⟨fun h => h, ?_⟩ | refine ⟨pk1, ?_⟩ | refine ⟨pk2, ?_⟩ | refine ⟨pk3, ?_⟩ | refine ⟨pk4, ?_⟩ | refine ⟨pk5, ?_⟩ | refine ⟨pk6, ?_⟩ | refine ⟨trivial, ?_⟩ | refine ⟨fun _ => trivial, ?_⟩ | refine ⟨rfl, ?_⟩ | refine every_i (fun hd => ?_) | refine everyN_i (fun k hk => ?_) | refine everyD_i (fun d hd => ?_) | refine fork_t (by assumption) ?_ | refine fork_f (by assumption) ?_
        | refine fork_t rfl ?_
        | refine fork_f rfl ?_
        | with_reducible first | refine fork_i (fun h => ?_) (fun h => ?_) | refine both_i ?_ ?_
        | ((with_reducible refine alike_i ?_); exact ⟨rfl, rfl, rfl⟩)
        | ((with_reducible refine fin_i ?_); (conv => whnf); refine ⟨rfl, ?_⟩)
        | refine ⟨hi (by assumption), ?_⟩
        | refine ⟨of_decide_eq_true rfl, ?_⟩
        | refine ⟨fun _ => of_decide_eq_true rfl, ?_⟩
        | ((with_reducible refine ⟨?_, ?_⟩); (focus (intros; simp_all; done)))
        | ((with_reducible refine ⟨?_, ?_⟩); (focus (intros; omega)))) <;> (try (conv => whnf)))
      · have hj' : j < l.length := lt_t' (by assumption)
        have hx : eq1 (getE tR l j) (getE tR m j) = false := by
          have h : (!eq1 (getE tR l j) (getE tR m j)) = true := h
          simpa using h
        rw [drop_get' _ hj', drop_get' _ (show j < m.length by omega), sameR, hx, Bool.false_and] at hl
        all_goals ((with_reducible refine leaf_i ?_); (conv => whnf))
        repeat' ((with_reducible refine And.intro ?_ ?_) <;> (try (conv => whnf)))
        all_goals (try (first | with_reducible rfl | exact True.intro | rfl | exact id | exact fun h => h | exact fun _ => rfl))
        all_goals (rw [← hl])
      · have hj' : j < l.length := lt_t' (by assumption)
        have hx : eq1 (getE tR l j) (getE tR m j) = true := by
          have h : (!eq1 (getE tR l j) (getE tR m j)) = false := h
          simpa using h
        rw [drop_get' _ hj', drop_get' _ (show j < m.length by omega), sameR, hx, Bool.true_and] at hl
        refine next_i (j + 1) ⟨hj', hl⟩ (by omega) rfl rfl ?_
        conv => whnf
        refine ⟨rfl, leaf_i ?_⟩
        repeat' ((with_reducible refine And.intro ?_ ?_) <;> (try (conv => whnf)))
        all_goals (try (first | with_reducible rfl | exact True.intro | rfl | exact id | exact fun h => h | exact fun _ => rfl))
        all_goals first | exact wrapS' (by omega) | rfl | trace_state
      · have hj' : l.length ≤ j := lt_f' (by assumption)
        rw [List.drop_eq_nil_of_le hj', List.drop_eq_nil_of_le (show m.length ≤ j by omega), sameR] at hl
        all_goals ((with_reducible refine leaf_i ?_); (conv => whnf))
        repeat' ((with_reducible refine And.intro ?_ ?_) <;> (try (conv => whnf)))
        all_goals (try (first | with_reducible rfl | exact True.intro | rfl | exact id | exact fun h => h | exact fun _ => rfl))
        all_goals (rw [← hl])
def k_sameB : Sig := .arg (shT tB) fun a => .arg (shT tB) fun b => .done { pre := (recsB a).length < 4611686018427387904, res := B (sameB a b) }
theorem c_sameB : FnOk Try.prog 18 k_sameB.con := by
  refine fnOkS mixed tys_ok (cs := [(32, k_same.con)]) ⟨c_same, trivial⟩ Try.func18 rfl (by kernel_rfl) Try.ntmps18 _ (h := ?_)
  rintro ⟨a1, a2, a3, a4, a5, a6, ⟨⟩⟩ ⟨b1, b2, b3, b4, b5, b6, ⟨⟩⟩
  refine ⟨rfl, fun hp => ?_⟩
  conv => whnf
  repeat' ((first
    | with_reducible first | refine ⟨fun h => h, ?_⟩ | refine ⟨pk1, ?_⟩ | refine ⟨pk2, ?_⟩ | refine ⟨pk3, ?_⟩ | refine ⟨pk4, ?_⟩ | refine ⟨pk5, ?_⟩ | refine ⟨pk6, ?_⟩ | refine ⟨trivial, ?_⟩ | refine ⟨fun _ => trivial, ?_⟩ | refine ⟨rfl, ?_⟩ | refine every_i (fun hd => ?_) | refine everyN_i (fun k hk => ?_) | refine everyD_i (fun d hd => ?_) | refine fork_t (by assumption) ?_ | refine fork_f (by assumption) ?_
    | refine fork_t rfl ?_
    | refine fork_f rfl ?_
    | with_reducible first | refine fork_i (fun h => ?_) (fun h => ?_) | refine both_i ?_ ?_
    | ((with_reducible refine alike_i ?_); exact ⟨rfl, rfl, rfl⟩)
    | ((with_reducible refine fin_i ?_); (conv => whnf); refine ⟨rfl, ?_⟩)
    | refine ⟨fun _ => hp, ?_⟩
    | refine ⟨of_decide_eq_true rfl, ?_⟩
    | refine ⟨fun _ => of_decide_eq_true rfl, ?_⟩
    | ((with_reducible refine ⟨?_, ?_⟩); (focus (intros; simp_all; done)))
    | ((with_reducible refine ⟨?_, ?_⟩); (focus (intros; omega)))) <;> (try (conv => whnf)))
  all_goals ((with_reducible refine leaf_i ?_); (conv => whnf))
  repeat' ((with_reducible refine And.intro ?_ ?_) <;> (try (conv => whnf)))
  all_goals (try (first | with_reducible rfl | exact True.intro | rfl | exact id | exact fun h => h | exact fun _ => rfl))
  all_goals first | rfl | trace_state
def k_sameBs : Sig := .arg (shR tB) fun a => .arg (shR tB) fun b => .done { pre := a.length < 4611686018427387904 ∧ ∀ x ∈ a, (recsB x).length < 4611686018427387904, res := B (sameBs a b) }
set_option maxHeartbeats 4000000 in
theorem c_sameBs : FnOk Try.prog 13 k_sameBs.con := by
  refine fnOkS mixed tys_ok (cs := [(18, k_sameB.con)]) ⟨c_sameB, trivial⟩ Try.func13 rfl (by kernel_rfl) Try.ntmps13 _ (h := ?_)
  intro l m
  refine ⟨rfl, fun hp => ?_⟩
  obtain ⟨hp1, hp2⟩ := hp
  conv => whnf
  repeat' ((first
    | with_reducible first | refine ⟨fun h => h, ?_⟩ | refine ⟨pk1, ?_⟩ | refine ⟨pk2, ?_⟩ | refine ⟨pk3, ?_⟩ | refine ⟨pk4, ?_⟩ | refine ⟨pk5, ?_⟩ | refine ⟨pk6, ?_⟩ | refine ⟨trivial, ?_⟩ | refine ⟨fun _ => trivial, ?_⟩ | refine ⟨rfl, ?_⟩ | refine every_i (fun hd => ?_) | refine everyN_i (fun k hk => ?_) | refine everyD_i (fun d hd => ?_) | refine fork_t (by assumption) ?_ | refine fork_f (by assumption) ?_
    | refine fork_t rfl ?_
    | refine fork_f rfl ?_
    | with_reducible first | refine fork_i (fun h => ?_) (fun h => ?_) | refine both_i ?_ ?_
    | ((with_reducible refine alike_i ?_); exact ⟨rfl, rfl, rfl⟩)
    | ((with_reducible refine fin_i ?_); (conv => whnf); refine ⟨rfl, ?_⟩)
    | refine ⟨of_decide_eq_true rfl, ?_⟩
    | refine ⟨fun _ => of_decide_eq_true rfl, ?_⟩
    | ((with_reducible refine ⟨?_, ?_⟩); (focus (intros; simp_all; done)))
    | ((with_reducible refine ⟨?_, ?_⟩); (focus (intros; omega)))) <;> (try (conv => whnf)))
  · have hn : l.length ≠ m.length := by
      intro e
      have h : ((l.length : Int) != (m.length : Int)) = true := h
      rw [e] at h; simp at h
    all_goals ((with_reducible refine leaf_i ?_); (conv => whnf))
    repeat' ((with_reducible refine And.intro ?_ ?_) <;> (try (conv => whnf)))
    all_goals (try (first | with_reducible rfl | exact True.intro | rfl | exact id | exact fun h => h | exact fun _ => rfl))
    all_goals (rw [sameBs_len hn])
  · have hn : l.length = m.length := by
      have h : ((l.length : Int) != (m.length : Int)) = false := h
      have h2 : (l.length : Int) = m.length := by simpa using h
      omega
    refine looped (σ := Nat) (fun j => [(5, I j)]) (fun _ => []) (fun j => j ≤ l.length ∧ sameBs (l.drop j) (m.drop j) = sameBs l m) (fun j => l.length - j) 0 ⟨Nat.zero_le _, rfl⟩ ?_ ?_
    · conv => whnf
      refine ⟨rfl, leaf_i ?_⟩
      repeat' ((with_reducible refine And.intro ?_ ?_) <;> (try (conv => whnf)))
      all_goals (try (first | with_reducible rfl | exact True.intro | rfl | exact id | exact fun h => h | exact fun _ => rfl))
    · rintro j ⟨hj, hl⟩
      dsimp only at hj hl ⊢
      have hi : decide ((j : Int) < (l.length : Int)) = true → 0 ≤ (j : Int) ∧ (j : Int) < (m.length : Int) := fun h => by have := lt_t' h; omega
      have hr : decide ((j : Int) < (l.length : Int)) = true → (recsB (getE tB l j)).length < 4611686018427387904 := fun h => hp2 _ (getE_mem _ (lt_t' h))
      conv => whnf
      repeat' ((first
        | with_reducible first | refine ⟨fun h => h, ?_⟩ | refine ⟨pk1, ?_⟩ | refine ⟨pk2, ?_⟩ | refine ⟨pk3, ?_⟩ | refine ⟨pk4, ?_⟩ | refine ⟨pk5, ?_⟩ | refine ⟨pk6, ?_⟩ | refine ⟨trivial, ?_⟩ | refine ⟨fun _ => trivial, ?_⟩ | refine ⟨rfl, ?_⟩ | refine every_i (fun hd => ?_) | refine everyN_i (fun k hk => ?_) | refine everyD_i (fun d hd => ?_) | refine fork_t (by assumption) ?_ | refine fork_f (by assumption) ?_
        | refine fork_t rfl ?_
        | refine fork_f rfl ?_
        | with_reducible first | refine fork_i (fun h => ?_) (fun h => ?_) | refine both_i ?_ ?_
        | ((with_reducible refine alike_i ?_); exact ⟨rfl, rfl, rfl⟩)
        | ((with_reducible refine fin_i ?_); (conv => whnf); refine ⟨rfl, ?_⟩)
        | refine ⟨hi (by assumption), ?_⟩
        | refine ⟨hr (by assumption), ?_⟩
        | refine ⟨of_decide_eq_true rfl, ?_⟩
        | refine ⟨fun _ => of_decide_eq_true rfl, ?_⟩
        | ((with_reducible refine ⟨?_, ?_⟩); (focus (intros; simp_all; done)))
        | ((with_reducible refine ⟨?_, ?_⟩); (focus (intros; omega)))) <;> (try (conv => whnf)))
      · have hj' : j < l.length := lt_t' (by assumption)
        have hx : sameB (getE tB l j) (getE tB m j) = false := by
          have h : (!sameB (getE tB l j) (getE tB m j)) = true := h
          simpa using h
        rw [drop_get' _ hj', drop_get' _ (show j < m.length by omega), sameBs, hx, Bool.false_and] at hl
        all_goals ((with_reducible refine leaf_i ?_); (conv => whnf))
        repeat' ((with_reducible refine And.intro ?_ ?_) <;> (try (conv => whnf)))
        all_goals (try (first | with_reducible rfl | exact True.intro | rfl | exact id | exact fun h => h | exact fun _ => rfl))
        all_goals (rw [← hl])
      · have hj' : j < l.length := lt_t' (by assumption)
        have hx : sameB (getE tB l j) (getE tB m j) = true := by
          have h : (!sameB (getE tB l j) (getE tB m j)) = false := h
          simpa using h
        rw [drop_get' _ hj', drop_get' _ (show j < m.length by omega), sameBs, hx, Bool.true_and] at hl
        refine next_i (j + 1) ⟨hj', hl⟩ (by omega) rfl rfl ?_
        conv => whnf
        refine ⟨rfl, leaf_i ?_⟩
        repeat' ((with_reducible refine And.intro ?_ ?_) <;> (try (conv => whnf)))
        all_goals (try (first | with_reducible rfl | exact True.intro | rfl | exact id | exact fun h => h | exact fun _ => rfl))
        all_goals first | exact wrapS' (by omega) | rfl | trace_state
      · have hj' : l.length ≤ j := lt_f' (by assumption)
        rw [List.drop_eq_nil_of_le hj', List.drop_eq_nil_of_le (show m.length ≤ j by omega), sameBs] at hl
        all_goals ((with_reducible refine leaf_i ?_); (conv => whnf))
        repeat' ((with_reducible refine And.intro ?_ ?_) <;> (try (conv => whnf)))
        all_goals (try (first | with_reducible rfl | exact True.intro | rfl | exact id | exact fun h => h | exact fun _ => rfl))
        all_goals (rw [← hl])
def recsK (x : Ca) : List Rec := x.2.2.2.2.2.2.2.2.2.1
def rowK (x : Ca) : Rw := (x.2.1, x.2.2.1, x.2.2.2.1, ())
def batK (x : Ca) : Ba := (x.2.2.2.2.1, x.2.2.2.2.2.1, x.2.2.2.2.2.2.1, x.2.2.2.2.2.2.2.1, x.2.2.2.2.2.2.2.2.1, recsK x, ())
def fewB (l : List Ca) : Bool := decide (l.length ≤ 60) && l.all fun x => decide ((recsK x).length ≤ 20)
def k_few : Sig := .arg (shR tK) fun l => .done { pre := True, res := B (fewB l) }
theorem c_few : FnOk Try.prog 8 k_few.con := by
  refine fnOkS mixed tys_ok (cs := []) trivial Try.func8 rfl (by kernel_rfl) Try.ntmps8 _ (h := ?_)
  intro l
  refine ⟨rfl, fun _ => ?_⟩
  conv => whnf
  repeat' ((first
    | with_reducible first | refine ⟨fun h => h, ?_⟩ | refine ⟨pk1, ?_⟩ | refine ⟨pk2, ?_⟩ | refine ⟨pk3, ?_⟩ | refine ⟨pk4, ?_⟩ | refine ⟨pk5, ?_⟩ | refine ⟨pk6, ?_⟩ | refine ⟨trivial, ?_⟩ | refine ⟨fun _ => trivial, ?_⟩ | refine ⟨rfl, ?_⟩ | refine every_i (fun hd => ?_) | refine everyN_i (fun k hk => ?_) | refine everyD_i (fun d hd => ?_) | refine fork_t (by assumption) ?_ | refine fork_f (by assumption) ?_
    | refine fork_t rfl ?_
    | refine fork_f rfl ?_
    | with_reducible first | refine fork_i (fun h => ?_) (fun h => ?_) | refine both_i ?_ ?_
    | ((with_reducible refine alike_i ?_); exact ⟨rfl, rfl, rfl⟩)
    | ((with_reducible refine fin_i ?_); (conv => whnf); refine ⟨rfl, ?_⟩)
    | refine ⟨of_decide_eq_true rfl, ?_⟩
    | refine ⟨fun _ => of_decide_eq_true rfl, ?_⟩
    | ((with_reducible refine ⟨?_, ?_⟩); (focus (intros; simp_all; done)))
    | ((with_reducible refine ⟨?_, ?_⟩); (focus (intros; omega)))) <;> (try (conv => whnf)))
  · have hn : ¬ l.length ≤ 60 := by
      have h : decide ((l.length : Int) > 60) = true := h
      have := of_decide_eq_true h; omega
    all_goals ((with_reducible refine leaf_i ?_); (conv => whnf))
    repeat' ((with_reducible refine And.intro ?_ ?_) <;> (try (conv => whnf)))
    all_goals (try (first | with_reducible rfl | exact True.intro | rfl | exact id | exact fun h => h | exact fun _ => rfl))
    all_goals (unfold fewB; rw [decide_eq_false hn]; rfl)
  · have hn : l.length ≤ 60 := by
      have h : decide ((l.length : Int) > 60) = false := h
      have := of_decide_eq_false h; omega
    refine looped (σ := Nat) (fun j => [(3, I j)]) (fun _ => []) (fun j => j ≤ l.length ∧ ((l.drop j).all fun x => decide ((recsK x).length ≤ 20)) = fewB l) (fun j => l.length - j) 0 ⟨Nat.zero_le _, by unfold fewB; rw [decide_eq_true hn]; rfl⟩ ?_ ?_
    · conv => whnf
      refine ⟨rfl, leaf_i ?_⟩
      repeat' ((with_reducible refine And.intro ?_ ?_) <;> (try (conv => whnf)))
      all_goals (try (first | with_reducible rfl | exact True.intro | rfl | exact id | exact fun h => h | exact fun _ => rfl))
    · rintro j ⟨hj, hl⟩
      dsimp only at hj hl ⊢
      conv => whnf
      repeat' ((first
        | with_reducible first | refine ⟨fun h => h, ?_⟩ | refine ⟨pk1, ?_⟩ | refine ⟨pk2, ?_⟩ | refine ⟨pk3, ?_⟩ | refine ⟨pk4, ?_⟩ | refine ⟨pk5, ?_⟩ | refine ⟨pk6, ?_⟩ | refine ⟨trivial, ?_⟩ | refine ⟨fun _ => trivial, ?_⟩ | refine ⟨rfl, ?_⟩ | refine every_i (fun hd => ?_) | refine everyN_i (fun k hk => ?_) | refine everyD_i (fun d hd => ?_) | refine fork_t (by assumption) ?_ | refine fork_f (by assumption) ?_
        | refine fork_t rfl ?_
        | refine fork_f rfl ?_
        | with_reducible first | refine fork_i (fun h => ?_) (fun h => ?_) | refine both_i ?_ ?_
        | ((with_reducible refine alike_i ?_); exact ⟨rfl, rfl, rfl⟩)
        | ((with_reducible refine fin_i ?_); (conv => whnf); refine ⟨rfl, ?_⟩)
        | refine ⟨of_decide_eq_true rfl, ?_⟩
        | refine ⟨fun _ => of_decide_eq_true rfl, ?_⟩
        | ((with_reducible refine ⟨?_, ?_⟩); (focus (intros; simp_all; done)))
        | ((with_reducible refine ⟨?_, ?_⟩); (focus (intros; omega)))) <;> (try (conv => whnf)))
      · have hj' : j < l.length := lt_t' (by assumption)
        rw [drop_get' _ hj', List.all_cons] at hl
        have hx : decide ((recsK (getE tK l j)).length ≤ 20) = false := by
          have h : decide (((recsK (getE tK l j)).length : Int) > 20) = true := h
          have := of_decide_eq_true h
          exact decide_eq_false (by omega)
        rw [hx, Bool.false_and] at hl
        all_goals ((with_reducible refine leaf_i ?_); (conv => whnf))
        repeat' ((with_reducible refine And.intro ?_ ?_) <;> (try (conv => whnf)))
        all_goals (try (first | with_reducible rfl | exact True.intro | rfl | exact id | exact fun h => h | exact fun _ => rfl))
        all_goals (rw [← hl])
      · have hj' : j < l.length := lt_t' (by assumption)
        rw [drop_get' _ hj', List.all_cons] at hl
        have hx : decide ((recsK (getE tK l j)).length ≤ 20) = true := by
          have h : decide (((recsK (getE tK l j)).length : Int) > 20) = false := h
          have := of_decide_eq_false h
          exact decide_eq_true (by omega)
        rw [hx, Bool.true_and] at hl
        refine next_i (j + 1) ⟨hj', hl⟩ (by omega) rfl rfl ?_
        conv => whnf
        refine ⟨rfl, leaf_i ?_⟩
        repeat' ((with_reducible refine And.intro ?_ ?_) <;> (try (conv => whnf)))
        all_goals (try (first | with_reducible rfl | exact True.intro | rfl | exact id | exact fun h => h | exact fun _ => rfl))
        all_goals first | exact wrapS' (by omega) | rfl | trace_state
      · have hj' : l.length ≤ j := lt_f' (by assumption)
        rw [List.drop_eq_nil_of_le hj'] at hl
        all_goals ((with_reducible refine leaf_i ?_); (conv => whnf))
        repeat' ((with_reducible refine And.intro ?_ ?_) <;> (try (conv => whnf)))
        all_goals (try (first | with_reducible rfl | exact True.intro | rfl | exact id | exact fun h => h | exact fun _ => rfl))
        all_goals (rw [← hl]; rfl)
end Go.Proofs.Ytdhpjpidcbplbaa

/- Layer 17: the chapter's examples. -/
namespace Go.Proofs.Ytdhpjpidcbplbaa
set_option maxRecDepth 100000
open Go Go.RowKit Go.Proofs.Ytdhpjpidcbplbaa.Eng
def k_works : Sig := .done { pre := True, res := B true }
set_option maxHeartbeats 4000000 in
theorem c_works : FnOk Try.prog 9 k_works.con := by
  refine fnOkS mixed tys_ok (cs := [(10, k_new.con), (12, k_put.con), (11, k_take.con), (15, k_rows.con), (14, k_len.con), (18, k_sameB.con)]) ⟨c_new, c_put, c_take, c_rows, c_len, c_sameB, trivial⟩ Try.func9 rfl (by kernel_rfl) Try.ntmps9 _ (ms := [15, 12, 11, 14]) (h := ?_)
  refine ⟨rfl, fun _ => ?_⟩
  conv => whnf
  repeat' ((first
    | refine ⟨⟨by decide +kernel, by decide +kernel⟩, ?_⟩
    | refine ⟨by ((try dsimp only); decide +kernel), ?_⟩
    | refine ⟨fun _ => ⟨by decide +kernel, by decide +kernel⟩, ?_⟩
    | refine ⟨fun _ => by ((try dsimp only); decide +kernel), ?_⟩
    | with_reducible first | refine ⟨fun h => h, ?_⟩ | refine ⟨pk1, ?_⟩ | refine ⟨pk2, ?_⟩ | refine ⟨pk3, ?_⟩ | refine ⟨pk4, ?_⟩ | refine ⟨pk5, ?_⟩ | refine ⟨pk6, ?_⟩ | refine ⟨trivial, ?_⟩ | refine ⟨fun _ => trivial, ?_⟩ | refine ⟨rfl, ?_⟩ | refine every_i (fun hd => ?_) | refine everyN_i (fun k hk => ?_) | refine everyD_i (fun d hd => ?_) | refine fork_t (by assumption) ?_ | refine fork_f (by assumption) ?_
    | refine fork_t rfl ?_
    | refine fork_f rfl ?_
    | with_reducible first | refine fork_i (fun h => ?_) (fun h => ?_) | refine both_i ?_ ?_
    | ((with_reducible refine alike_i ?_); exact ⟨rfl, rfl, rfl⟩)
    | ((with_reducible refine fin_i ?_); (conv => whnf); refine ⟨rfl, ?_⟩)
    | refine ⟨of_decide_eq_true rfl, ?_⟩
    | refine ⟨fun _ => of_decide_eq_true rfl, ?_⟩
    | ((with_reducible refine ⟨?_, ?_⟩); (focus (intros; simp_all; done)))
    | ((with_reducible refine ⟨?_, ?_⟩); (focus (intros; omega)))) <;> (try (conv => whnf)))
  all_goals ((with_reducible refine leaf_i ?_); (conv => whnf))
  repeat' ((with_reducible refine And.intro ?_ ?_) <;> (try (conv => whnf)))
  all_goals (try (first | with_reducible rfl | exact True.intro | rfl | exact id | exact fun h => h | exact fun _ => rfl))
  all_goals first | kernel_rfl | trace_state
end Go.Proofs.Ytdhpjpidcbplbaa

/- A map of rows in plain Lean: what puts and takes leave. No program in sight. -/
namespace Go.Proofs.Ytdhpjpidcbplbaa
open Go Go.Proofs.Ytdhpjpidcbplbaa.Eng
theorem eqQ_iff (x y : Rw) : eqE tQ x y = true ↔ x = y := by
  obtain ⟨a1, a2, a3, _⟩ := x
  obtain ⟨b1, b2, b3, _⟩ := y
  simp [eqE]
theorem eqQ_false {x y : Rw} (h : eqE tQ x y = false) : x ≠ y := fun e => by rw [(eqQ_iff x y).2 e] at h; cases h
theorem eqQ_no {x y : Rw} (h : x ≠ y) : eqE tQ x y = false := by
  cases hq : eqE tQ x y with
  | false => rfl
  | true => exact absurd ((eqQ_iff x y).1 hq) h
theorem eqQ_self (x : Rw) : eqE tQ x x = true := (eqQ_iff x x).2 rfl
def kdQ (m : QM) : Prop := (m.map (·.1)).Nodup
theorem find_put (r r' : Rw) (v : ElV (.el tBs)) : ∀ (m : QM), findM tQ r' (putM tQ r v m) = if r' = r then some v else findM tQ r' m
  | [] => by
    unfold putM findM
    by_cases h : r' = r
    · rw [if_pos h, (eqQ_iff r' r).2 h]; rfl
    · rw [if_neg h, eqQ_no h]; rfl
  | (a, w) :: m => by
    unfold putM
    cases hq : eqE tQ r a with
    | true =>
      have := (eqQ_iff r a).1 hq
      subst this
      simp only [cond_true, findM]
      by_cases h : r' = r
      · rw [if_pos h, (eqQ_iff r' r).2 h]; rfl
      · rw [if_neg h, eqQ_no h]; rfl
    | false =>
      simp only [cond_false, findM]
      cases hq2 : eqE tQ r' a with
      | true =>
        have := (eqQ_iff r' a).1 hq2
        subst this
        rw [if_neg (fun e => eqQ_false hq e.symm)]; rfl
      | false => simp only [cond_false]; exact find_put r r' v m
theorem find_none {r : Rw} : ∀ {m : QM}, (∀ p ∈ m, p.1 ≠ r) → findM tQ r m = none
  | [], _ => rfl
  | (a, w) :: m, h => by
    unfold findM
    rw [eqQ_no (fun e => h (a, w) (by simp) e.symm)]
    exact find_none fun p hp => h p (by simp [hp])
theorem find_mem {r : Rw} {v : ElV (.el tBs)} : ∀ {m : QM}, findM tQ r m = some v → (r, v) ∈ m
  | [], h => by cases h
  | (a, w) :: m, h => by
    unfold findM at h
    cases hq : eqE tQ r a with
    | true =>
      rw [hq] at h
      have := (eqQ_iff r a).1 hq
      subst this
      injection h with h
      subst h
      simp
    | false => rw [hq] at h; exact List.mem_cons_of_mem _ (find_mem h)
theorem find_of_mem {r : Rw} {v : ElV (.el tBs)} : ∀ {m : QM}, kdQ m → (r, v) ∈ m → findM tQ r m = some v
  | [], _, h => by cases h
  | (a, w) :: m, hk, h => by
    unfold kdQ at hk
    rw [List.map_cons, List.nodup_cons] at hk
    unfold findM
    rcases List.mem_cons.1 h with e | e
    · injection e with e1 e2
      subst e1 e2
      rw [eqQ_self]; rfl
    · have : r ≠ a := fun e' => hk.1 (by rw [← e']; exact List.mem_map.2 ⟨(r, v), e, rfl⟩)
      rw [eqQ_no this]
      exact find_of_mem hk.2 e
theorem find_del (r r' : Rw) : ∀ {m : QM}, kdQ m → findM tQ r' (delM tQ r m) = if r' = r then none else findM tQ r' m
  | [], _ => by unfold delM findM; split <;> rfl
  | (a, w) :: m, hk => by
    unfold kdQ at hk
    rw [List.map_cons, List.nodup_cons] at hk
    unfold delM
    cases hq : eqE tQ r a with
    | true =>
      have := (eqQ_iff r a).1 hq
      subst this
      simp only [cond_true]
      by_cases h : r' = r
      · rw [if_pos h]
        exact find_none fun p hp e => hk.1 (List.mem_map.2 ⟨p, hp, by rw [e, h]⟩)
      · rw [if_neg h]
        conv => rhs; unfold findM
        rw [eqQ_no h]; rfl
    | false =>
      simp only [cond_false, findM]
      cases hq2 : eqE tQ r' a with
      | true =>
        have := (eqQ_iff r' a).1 hq2
        subst this
        rw [if_neg (fun e => eqQ_false hq e.symm)]; rfl
      | false => simp only [cond_false]; exact find_del r r' hk.2
theorem put_keys {r x : Rw} {v : ElV (.el tBs)} : ∀ {m : QM}, x ∈ (putM tQ r v m).map (·.1) → x = r ∨ x ∈ m.map (·.1)
  | [], h => by simp [putM] at h; exact .inl h
  | (a, w) :: m, h => by
    unfold putM at h
    cases hq : eqE tQ r a with
    | true =>
      rw [hq] at h
      have := (eqQ_iff r a).1 hq
      subst this
      exact .inr h
    | false =>
      rw [hq] at h
      rcases List.mem_cons.1 h with e | e
      · exact .inr (by simp [show x = a from e])
      · rcases put_keys e with e | e
        · exact .inl e
        · exact .inr (List.mem_cons_of_mem _ e)
theorem kd_put {r : Rw} {v : ElV (.el tBs)} : ∀ {m : QM}, kdQ m → kdQ (putM tQ r v m)
  | [], _ => by simp [kdQ, putM]
  | (a, w) :: m, hk => by
    unfold kdQ at hk ⊢
    rw [List.map_cons, List.nodup_cons] at hk
    unfold putM
    cases hq : eqE tQ r a with
    | true =>
      have := (eqQ_iff r a).1 hq
      subst this
      simp only [cond_true, List.map_cons, List.nodup_cons]
      exact hk
    | false =>
      simp only [cond_false, List.map_cons, List.nodup_cons]
      refine ⟨fun h => ?_, kd_put hk.2⟩
      rcases put_keys h with e | e
      · exact eqQ_false hq e.symm
      · exact hk.1 e
theorem del_sub {r : Rw} : ∀ {m : QM} {p : Rw × ElV (.el tBs)}, p ∈ delM tQ r m → p ∈ m
  | [], p, h => by cases h
  | (a, w) :: m, p, h => by
    unfold delM at h
    cases hq : eqE tQ r a with
    | true => rw [hq] at h; exact List.mem_cons_of_mem _ h
    | false =>
      rw [hq] at h
      rcases List.mem_cons.1 h with e | e
      · rw [e]; simp
      · exact List.mem_cons_of_mem _ (del_sub e)
theorem kd_del {r : Rw} : ∀ {m : QM}, kdQ m → kdQ (delM tQ r m)
  | [], h => h
  | (a, w) :: m, hk => by
    unfold kdQ at hk ⊢
    rw [List.map_cons, List.nodup_cons] at hk
    unfold delM
    cases hq : eqE tQ r a with
    | true => exact hk.2
    | false =>
      simp only [cond_false, List.map_cons, List.nodup_cons]
      refine ⟨fun h => ?_, kd_del hk.2⟩
      obtain ⟨p, hp, e⟩ := List.mem_map.1 h
      exact hk.1 (List.mem_map.2 ⟨p, del_sub hp, e⟩)
theorem put_mem {r : Rw} {v : ElV (.el tBs)} : ∀ {m : QM} {p : Rw × ElV (.el tBs)}, p ∈ putM tQ r v m → p = (r, v) ∨ p ∈ m
  | [], p, h => by simp [putM] at h; exact .inl h
  | (a, w) :: m, p, h => by
    unfold putM at h
    cases hq : eqE tQ r a with
    | true =>
      rw [hq] at h
      rcases List.mem_cons.1 h with e | e
      · exact .inl e
      · exact .inr (List.mem_cons_of_mem _ e)
    | false =>
      rw [hq] at h
      rcases List.mem_cons.1 h with e | e
      · exact .inr (by rw [e]; simp)
      · rcases put_mem e with e | e
        · exact .inl e
        · exact .inr (List.mem_cons_of_mem _ e)
theorem getQ_put (m : QM) (r r' : Rw) (l : List Ba) : getQ (putQ m r l) r' = if r' = r then l else getQ m r' := by
  unfold getQ putQ
  rw [find_put]
  split <;> rfl
theorem getQ_del {m : QM} (hk : kdQ m) (r r' : Rw) : getQ (delM tQ r m) r' = if r' = r then [] else getQ m r' := by
  unfold getQ
  rw [find_del _ _ hk]
  split <;> rfl
def totQ (m : QM) : Nat := (m.map fun p => p.2.1.length).sum
theorem tot_put (r : Rw) (l : List Ba) : ∀ (m : QM), totQ (putQ m r l) + (getQ m r).length = totQ m + l.length
  | [] => by simp [totQ, putQ, getQ, putM, findM]
  | (a, w) :: m => by
    have ih := tot_put r l m
    unfold totQ putQ getQ at ih ⊢
    unfold putM findM
    cases hq : eqE tQ r a with
    | true => simp only [cond_true, List.map_cons, List.sum_cons, Option.getD_some]; omega
    | false => simp only [cond_false, List.map_cons, List.sum_cons]; omega
theorem tot_del (r : Rw) : ∀ (m : QM), totQ (delM tQ r m) + (getQ m r).length = totQ m
  | [] => by simp [totQ, delM, getQ, findM]
  | (a, w) :: m => by
    have ih := tot_del r m
    unfold totQ getQ at ih ⊢
    unfold delM findM
    cases hq : eqE tQ r a with
    | true => simp only [cond_true, List.map_cons, List.sum_cons, Option.getD_some]; omega
    | false => simp only [cond_false, List.map_cons, List.sum_cons]; omega
theorem get_le_tot (r : Rw) (m : QM) : (getQ m r).length ≤ totQ m := by have := tot_del r m; omega
structure QInv (n : Nat) (m : QM) : Prop where
  kd : kdQ m
  ne : ∀ p ∈ m, p.2.1 ≠ []
  tot : totQ m ≤ n
  rc : ∀ r, ∀ b ∈ getQ m r, (recsB b).length ≤ 20
theorem QInv.get {n : Nat} {m : QM} (h : QInv n m) (r : Rw) : (getQ m r).length ≤ n := Nat.le_trans (get_le_tot r m) h.tot
theorem QInv.len {n : Nat} {m : QM} (h : QInv n m) : m.length ≤ n := by
  have key : ∀ (m : QM), (∀ p ∈ m, p.2.1 ≠ []) → m.length ≤ totQ m := by
    intro m
    induction m with
    | nil => intro _; simp [totQ]
    | cons p m ih =>
      intro hne
      have h1 := ih fun q hq => hne q (by simp [hq])
      have h2 : 0 < p.2.1.length := List.length_pos_iff.2 (hne p (by simp))
      unfold totQ at h1 ⊢
      simp only [List.length_cons, List.map_cons, List.sum_cons]; omega
  exact Nat.le_trans (key m h.ne) h.tot
theorem qinv_nil : QInv 0 [] := ⟨by simp [kdQ], fun p hp => absurd hp (by simp), by simp [totQ], fun r b hb => absurd hb (by simp [getQ, findM])⟩
theorem QInv.mono {n k : Nat} {m : QM} (h : QInv n m) (hk : n ≤ k) : QInv k m := ⟨h.kd, h.ne, Nat.le_trans h.tot hk, h.rc⟩
theorem qinv_put {n : Nat} {m : QM} (h : QInv n m) (r : Rw) (b : Ba) (hb : (recsB b).length ≤ 20) : QInv (n + 1) (putQ m r (getQ m r ++ [b])) := by
  refine ⟨kd_put h.kd, fun p hp => ?_, ?_, fun r' c hc => ?_⟩
  · rcases put_mem hp with rfl | hp
    · simp
    · exact h.ne p hp
  · have := tot_put r (getQ m r ++ [b]) m
    rw [List.length_append] at this
    have := h.tot
    simp at *; omega
  · rw [getQ_put] at hc
    split at hc
    · rcases List.mem_append.1 hc with hc | hc
      · exact h.rc r c hc
      · have : c = b := by simpa using hc
        rw [this]; exact hb
    · exact h.rc r' c hc
theorem qinv_putP {n : Nat} {m : QM} (h : QInv n m) (r : Rw) (b : Ba) (hb : (recsB b).length ≤ 20) : QInv (n + 1) (putP m r b).2 := by
  unfold putP
  split
  · exact h.mono (Nat.le_succ _)
  · split
    · exact h.mono (Nat.le_succ _)
    · exact qinv_put h r b hb
def leftQ (m : QM) (r : Rw) : QM := (takeQ m r).2.2
theorem left_nil {m : QM} {r : Rw} (h : getQ m r = []) : takeQ m r = (zB, false, m) := by unfold takeQ; rw [h]
theorem left_cons {m : QM} {r : Rw} {b : Ba} {l : List Ba} (h : getQ m r = b :: l) : takeQ m r = (b, true, if l.length = 0 then delM tQ r (putQ m r l) else putQ m r l) := by unfold takeQ; rw [h]
theorem getQ_left {m : QM} (hk : kdQ m) (r r' : Rw) : getQ (leftQ m r) r' = if r' = r then (getQ m r).drop 1 else getQ m r' := by
  unfold leftQ
  cases hq : getQ m r with
  | nil =>
    rw [left_nil hq]
    split
    · rename_i e; rw [e]; exact hq
    · rfl
  | cons b l =>
    rw [left_cons hq]
    dsimp only
    split
    · rename_i hl
      rw [getQ_del (show kdQ (putQ m r l) from kd_put hk), getQ_put]
      have : l = [] := List.eq_nil_of_length_eq_zero hl
      subst this
      split <;> rfl
    · rw [getQ_put]
      split <;> rfl
theorem qinv_take {n : Nat} {m : QM} (h : QInv n m) (r : Rw) : QInv n (leftQ m r) := by
  refine ⟨?_, ?_, ?_, fun r' c hc => ?_⟩
  · unfold leftQ
    cases hq : getQ m r with
    | nil => rw [left_nil hq]; exact h.kd
    | cons b l =>
      rw [left_cons hq]
      dsimp only
      split
      · exact kd_del (kd_put h.kd)
      · exact kd_put h.kd
  · unfold leftQ
    cases hq : getQ m r with
    | nil => rw [left_nil hq]; exact h.ne
    | cons b l =>
      rw [left_cons hq]
      dsimp only
      split
      · rename_i hl
        intro p hp
        have hp2 := del_sub hp
        rcases put_mem hp2 with e | hp3
        · exfalso
          have hnd := find_of_mem (kd_del (r := r) (kd_put (r := r) (v := (l, ())) h.kd)) (r := p.1) (v := p.2) hp
          rw [find_del _ _ (kd_put h.kd), if_pos (by rw [e])] at hnd
          cases hnd
        · exact h.ne p hp3
      · rename_i hl
        intro p hp
        rcases put_mem hp with e | hp3
        · rw [e]; intro e2; exact hl (by rw [show l = [] from e2]; rfl)
        · exact h.ne p hp3
  · unfold leftQ
    cases hq : getQ m r with
    | nil => rw [left_nil hq]; exact h.tot
    | cons b l =>
      rw [left_cons hq]
      dsimp only
      have h1 := tot_put r l m
      rw [hq, List.length_cons] at h1
      have := h.tot
      split
      · have h2 := tot_del r (putQ m r l)
        omega
      · omega
  · rw [getQ_left h.kd] at hc
    split at hc
    · exact h.rc r c (List.mem_of_mem_drop hc)
    · exact h.rc r' c hc
theorem tot_take {n : Nat} {m : QM} (h : QInv n m) (r : Rw) : totQ (leftQ m r) + (if (takeQ m r).2.1 then 1 else 0) = totQ m := by
  unfold leftQ
  cases hq : getQ m r with
  | nil => rw [left_nil hq]; simp
  | cons b l =>
    rw [left_cons hq]
    dsimp only
    have h1 := tot_put r l m
    rw [hq, List.length_cons] at h1
    split
    · rename_i hl
      have h2 := tot_del r (putQ m r l)
      rw [getQ_put, if_pos rfl] at h2
      simp; omega
    · simp; omega
theorem take_true {m : QM} {r : Rw} (h : (takeQ m r).2.1 = true) : getQ m r = (takeQ m r).1 :: (getQ m r).drop 1 := by
  cases hq : getQ m r with
  | nil => rw [left_nil hq] at h; cases h
  | cons b l => rw [left_cons hq]; rfl
theorem take_false {m : QM} {r : Rw} (h : (takeQ m r).2.1 = false) : getQ m r = [] ∧ takeQ m r = (zB, false, m) := by
  cases hq : getQ m r with
  | nil => exact ⟨rfl, left_nil hq⟩
  | cons b l => rw [left_cons hq] at h; cases h
theorem putP_zero {m : QM} {r : Rw} {b : Ba} (h : (putP m r b).1 = 0) : (putP m r b).2 = putQ m r (getQ m r ++ [b]) ∧ mayB r = true := by
  unfold putP at h ⊢
  split
  · rename_i h1; rw [if_pos h1] at h; cases h
  · rename_i h1
    rw [if_neg h1] at h
    split
    · rename_i h2; rw [if_pos h2] at h; cases h
    · exact ⟨rfl, by cases hq : mayB r with | true => rfl | false => exact absurd hq h1⟩
theorem putP_ne {m : QM} {r : Rw} {b : Ba} (h : (putP m r b).1 ≠ 0) : (putP m r b).2 = m := by
  unfold putP at h ⊢
  split
  · rfl
  · rename_i h1
    rw [if_neg h1] at h
    split
    · rfl
    · rename_i h2; rw [if_neg h2] at h; exact absurd rfl h
theorem bif_and {a b : Bool} : (bif a then b else false) = true ↔ a = true ∧ b = true := by cases a <;> cases b <;> simp
theorem bif_nand {a b : Bool} : (bif a then b else false) = false ↔ (a = true → b = false) := by cases a <;> cases b <;> simp
theorem row_eq {a1 a2 a3 b1 b2 b3 : Int} : (a1 == b1 && (a2 == b2 && (a3 == b3 && true))) = true ↔ ((a1, a2, a3, ()) : Rw) = (b1, b2, b3, ()) := by simp
theorem row_ne {a1 a2 a3 b1 b2 b3 : Int} (h : (a1 == b1 && (a2 == b2 && (a3 == b3 && true))) = false) : ((a1, a2, a3, ()) : Rw) ≠ (b1, b2, b3, ()) := fun e => by rw [row_eq.2 e] at h; cases h
theorem lenQ_tot {n : Nat} {m : QM} (h : QInv n m) : lenQ m (rowsQ m) = totQ m := by
  unfold lenQ totQ rowsQ
  have hp : ((isrtQ (m.map (·.1))).map fun r => (getQ m r).length).Perm ((m.map (·.1)).map fun r => (getQ m r).length) := (isrtQ_perm _).map _
  rw [hp.sum_nat, List.map_map]
  congr 1
  refine List.map_congr_left fun p hp => ?_
  show (getQ m p.1).length = _
  unfold getQ
  rw [find_of_mem h.kd (v := p.2) hp]; rfl
end Go.Proofs.Ytdhpjpidcbplbaa

/- Layer 17: QueueRows. -/
namespace Go.Proofs.Ytdhpjpidcbplbaa
set_option maxRecDepth 100000
open Go Go.RowKit Go.Proofs.Ytdhpjpidcbplbaa.Eng
abbrev tyB : TypeId := 35
theorem few_len {l : List Ca} (h : fewB l = true) : l.length ≤ 60 := by
  unfold fewB at h
  simp only [Bool.and_eq_true, decide_eq_true_eq] at h
  exact h.1
theorem few_recs {l : List Ca} (h : fewB l = true) {j : Nat} (hj : j < l.length) : (recsK (getE tK l j)).length ≤ 20 := by
  unfold fewB at h
  simp only [Bool.and_eq_true, List.all_eq_true, decide_eq_true_eq] at h
  exact h.2 _ (getE_mem l hj)
abbrev rwC (r : Rw) : AO := .cells (.cons (I r.1) (.cons (I r.2.1) (.cons (I r.2.2.1) .nil)))
def k_lrows : Sig := .arg (shR tK) fun l => .arg (shT tQ) fun r => .done { pre := True, res := B true }
set_option maxHeartbeats 8000000 in
theorem c_lrows : FnOk Try.prog 3 k_lrows.con := by
  refine fnOkS mixed tys_ok (cs := [(8, k_few.con), (9, k_works.con), (10, k_new.con), (12, k_put.con), (11, k_take.con), (13, k_sameBs.con)]) ⟨c_few, c_works, c_new, c_put, c_take, c_sameBs, trivial⟩ Try.func3 rfl (by kernel_rfl) Try.ntmps3 _ (h := ?_)
  rintro l ⟨r1, r2, r3, ⟨⟩⟩
  refine ⟨rfl, fun hp => ?_⟩
  conv => whnf
  repeat' ((first
    | with_reducible first | refine ⟨fun h => h, ?_⟩ | refine ⟨pk1, ?_⟩ | refine ⟨pk2, ?_⟩ | refine ⟨pk3, ?_⟩ | refine ⟨pk4, ?_⟩ | refine ⟨pk5, ?_⟩ | refine ⟨pk6, ?_⟩ | refine ⟨trivial, ?_⟩ | refine ⟨fun _ => trivial, ?_⟩ | refine ⟨rfl, ?_⟩ | refine every_i (fun hd => ?_) | refine everyN_i (fun k hk => ?_) | refine everyD_i (fun d hd => ?_) | refine fork_t (by assumption) ?_ | refine fork_f (by assumption) ?_
    | refine fork_t rfl ?_
    | refine fork_f rfl ?_
    | with_reducible first | refine fork_i (fun h => ?_) (fun h => ?_) | refine both_i ?_ ?_
    | ((with_reducible refine alike_i ?_); exact ⟨rfl, rfl, rfl⟩)
    | ((with_reducible refine fin_i ?_); (conv => whnf); refine ⟨rfl, ?_⟩)
    | refine ⟨of_decide_eq_true rfl, ?_⟩
    | refine ⟨fun _ => of_decide_eq_true rfl, ?_⟩
    | ((with_reducible refine ⟨?_, ?_⟩); (focus (intros; simp_all; done)))
    | ((with_reducible refine ⟨?_, ?_⟩); (focus (intros; omega)))) <;> (try (conv => whnf)))
  · all_goals ((with_reducible refine leaf_i ?_); (conv => whnf))
    repeat' ((with_reducible refine And.intro ?_ ?_) <;> (try (conv => whnf)))
    all_goals (try (first | with_reducible rfl | exact True.intro | rfl | exact id | exact fun h => h | exact fun _ => rfl))
  · have hf : fewB l = true := by
      have h : (!fewB l) = false := h
      simpa using h
    have hl60 := few_len hf
    refine only [5, 3, 0] ?_
    (conv => whnf)
    refine looped (σ := Nat × QM × List Ba × List Ba) (fun x => [(8, I x.1), (6, .ow 3 6 x.2.2.1.length), (7, .ow 4 6 x.2.2.2.length)]) (fun x => [rwC (r1, r2, r3, ()), .cells (.cons (.mp 2) .nil), aoM x.2.1, .row false tB tyB x.2.2.1, .row true tB tyB x.2.2.2])
      (fun x => x.1 ≤ l.length ∧ QInv x.1 x.2.1 ∧ x.2.2.1 = x.2.2.2 ++ getQ x.2.1 (r1, r2, r3, ()) ∧ x.2.2.1.length ≤ x.1 ∧ ∀ b ∈ x.2.2.1, (recsB b).length ≤ 20) (fun x => l.length - x.1) (0, [], [], []) ⟨Nat.zero_le _, qinv_nil, rfl, Nat.le_refl _, fun b hb => by cases hb⟩ ?_ ?_
    · conv => whnf
      refine ⟨rfl, leaf_i ?_⟩
      repeat' ((with_reducible refine And.intro ?_ ?_) <;> (try (conv => whnf)))
      all_goals (try (first | with_reducible rfl | exact True.intro | rfl | exact id | exact fun h => h | exact fun _ => rfl))
      all_goals trace_state
    · rintro ⟨i, m, a, o⟩ ⟨hi, hq, ha, hal, har⟩
      dsimp only at hi hq ha hal har ⊢
      have hb1 : ∀ r, ∀ b ∈ getQ m r, (recsB b).length ≤ 1000000000 := fun r b hb => Nat.le_trans (hq.rc r b hb) (by decide)
      have hb2 : ∀ r, (getQ m r).length < 1000000000 := fun r => Nat.lt_of_le_of_lt (hq.get r) (by omega)
      have hb3 : decide ((i : Int) < (l.length : Int)) = true → (recsK (getE tK l i)).length ≤ 1000000000 := fun h => Nat.le_trans (few_recs hf (lt_t' h)) (by decide)
      have hol : o.length ≤ i := by have := congrArg List.length ha; rw [List.length_append] at this; omega
      have hb4 : decide ((i : Int) < (l.length : Int)) = true → ∀ x : Ba, (o ++ [x]).length ≤ 1000000000 := fun h x => by have := lt_t' h; rw [List.length_append]; simp; omega
      have hb5 : decide ((i : Int) < (l.length : Int)) = true → ∀ x : Ba, (a ++ [x]).length ≤ 1000000000 := fun h x => by have := lt_t' h; rw [List.length_append]; simp; omega
      conv => whnf
      repeat' ((first
        | refine ⟨hb1 _, ?_⟩
        | refine ⟨⟨hb3 (by assumption), hb2 _⟩, ?_⟩
        | refine ⟨hb4 (by assumption) _, ?_⟩
        | refine ⟨hb5 (by assumption) _, ?_⟩
        | with_reducible first | refine ⟨fun h => h, ?_⟩ | refine ⟨pk1, ?_⟩ | refine ⟨pk2, ?_⟩ | refine ⟨pk3, ?_⟩ | refine ⟨pk4, ?_⟩ | refine ⟨pk5, ?_⟩ | refine ⟨pk6, ?_⟩ | refine ⟨trivial, ?_⟩ | refine ⟨fun _ => trivial, ?_⟩ | refine ⟨rfl, ?_⟩ | refine every_i (fun hd => ?_) | refine everyN_i (fun k hk => ?_) | refine everyD_i (fun d hd => ?_) | refine fork_t (by assumption) ?_ | refine fork_f (by assumption) ?_
        | refine fork_t rfl ?_
        | refine fork_f rfl ?_
        | with_reducible first | refine fork_i (fun h => ?_) (fun h => ?_) | refine both_i ?_ ?_
        | ((with_reducible refine alike_i ?_); exact ⟨rfl, rfl, rfl⟩)
        | ((with_reducible refine fin_i ?_); (conv => whnf); refine ⟨rfl, ?_⟩)
        | refine ⟨of_decide_eq_true rfl, ?_⟩
        | refine ⟨fun _ => of_decide_eq_true rfl, ?_⟩
        | ((with_reducible refine ⟨?_, ?_⟩); (focus (intros; simp_all; done)))
        | ((with_reducible refine ⟨?_, ?_⟩); (focus (intros; omega)))) <;> (try (conv => whnf)))
      · -- taken, of the row
        rename_i hlt _
        have hlt := lt_t' hlt
        obtain ⟨h1, h2⟩ := bif_and.1 h
        have h1 : (takeQ m (rowK (getE tK l i))).2.1 = true := h1
        have h2 : rowK (getE tK l i) = (r1, r2, r3, ()) := row_eq.1 h2
        have hg := take_true h1
        refine next_i (i + 1, leftQ m (rowK (getE tK l i)), a, o ++ [(takeQ m (rowK (getE tK l i))).1]) ⟨hlt, (qinv_take hq _).mono (Nat.le_succ _), ?_, by dsimp only; omega, har⟩ (by dsimp only; omega) rfl rfl ?_
        · dsimp only
          rw [getQ_left hq.kd, if_pos h2.symm, List.append_assoc, List.singleton_append, ← hg, ha, h2]
        · conv => whnf
          refine ⟨rfl, leaf_i ?_⟩
          repeat' ((with_reducible refine And.intro ?_ ?_) <;> (try (conv => whnf)))
          all_goals (try (first | with_reducible rfl | exact True.intro | rfl | exact id | exact fun h => h | exact fun _ => rfl))
          all_goals first | exact wrapS' (by omega) | rfl | (rw [List.length_append]; rfl) | trace_state
      · -- taken, of another one
        rename_i hlt _
        have hlt := lt_t' hlt
        have h := bif_nand.1 h
        have h : (takeQ m (rowK (getE tK l i))).2.1 = true → rowK (getE tK l i) ≠ (r1, r2, r3, ()) := fun h1 => row_ne (h h1)
        refine next_i (i + 1, leftQ m (rowK (getE tK l i)), a, o) ⟨hlt, (qinv_take hq _).mono (Nat.le_succ _), ?_, by dsimp only; omega, har⟩ (by dsimp only; omega) rfl rfl ?_
        · dsimp only
          rw [getQ_left hq.kd, ha]
          split
          · rename_i e
            cases h1 : (takeQ m (rowK (getE tK l i))).2.1 with
            | true => exact absurd e.symm (h h1)
            | false => rw [e, (take_false h1).1]; rfl
          · rfl
        · conv => whnf
          refine ⟨rfl, leaf_i ?_⟩
          repeat' ((with_reducible refine And.intro ?_ ?_) <;> (try (conv => whnf)))
          all_goals (try (first | with_reducible rfl | exact True.intro | rfl | exact id | exact fun h => h | exact fun _ => rfl))
          all_goals first | exact wrapS' (by omega) | rfl | trace_state
      · -- put into the row
        rename_i hlt _
        have hlt' := hlt
        have hlt := lt_t' hlt
        obtain ⟨h1, h2⟩ := bif_and.1 h
        have h1 : (putP m (rowK (getE tK l i)) (batK (getE tK l i))).1 = 0 := eq_of_beq h1
        have h2 : rowK (getE tK l i) = (r1, r2, r3, ()) := row_eq.1 h2
        obtain ⟨hg, _⟩ := putP_zero h1
        have hrl : (recsB (batK (getE tK l i))).length ≤ 20 := few_recs hf hlt
        refine next_i (i + 1, (putP m (rowK (getE tK l i)) (batK (getE tK l i))).2, a ++ [batK (getE tK l i)], o) ⟨hlt, qinv_putP hq _ _ hrl, ?_, by dsimp only; rw [List.length_append]; simp; omega, fun b hb => ?_⟩ (by dsimp only; omega) rfl rfl ?_
        · dsimp only
          rw [hg, getQ_put, if_pos h2.symm, ha, h2, List.append_assoc]
        · rcases List.mem_append.1 hb with hb | hb
          · exact har b hb
          · have : b = batK (getE tK l i) := by simpa using hb
            rw [this]; exact hrl
        · conv => whnf
          refine ⟨rfl, leaf_i ?_⟩
          repeat' ((with_reducible refine And.intro ?_ ?_) <;> (try (conv => whnf)))
          all_goals (try (first | with_reducible rfl | exact True.intro | rfl | exact id | exact fun h => h | exact fun _ => rfl))
          all_goals first | exact wrapS' (by omega) | rfl | (rw [List.length_append]; rfl) | trace_state
      · -- put into another one
        rename_i hlt _
        have hlt := lt_t' hlt
        have h := bif_nand.1 h
        have hrl : (recsB (batK (getE tK l i))).length ≤ 20 := few_recs hf hlt
        refine next_i (i + 1, (putP m (rowK (getE tK l i)) (batK (getE tK l i))).2, a, o) ⟨hlt, qinv_putP hq _ _ hrl, ?_, by dsimp only; omega, har⟩ (by dsimp only; omega) rfl rfl ?_
        · dsimp only
          by_cases h1 : (putP m (rowK (getE tK l i)) (batK (getE tK l i))).1 = 0
          · have h2 : rowK (getE tK l i) ≠ (r1, r2, r3, ()) := row_ne (h (beq_iff_eq.2 h1))
            rw [(putP_zero h1).1, getQ_put, if_neg (fun e => h2 e.symm), ha]
          · rw [putP_ne h1, ha]
        · conv => whnf
          refine ⟨rfl, leaf_i ?_⟩
          repeat' ((with_reducible refine And.intro ?_ ?_) <;> (try (conv => whnf)))
          all_goals (try (first | with_reducible rfl | exact True.intro | rfl | exact id | exact fun h => h | exact fun _ => rfl))
          all_goals first | exact wrapS' (by omega) | rfl | trace_state
      · -- what is left
        have hil : l.length ≤ i := lt_f' (by assumption)
        refine only [5, 6, 3] ?_
        (conv => whnf)
        refine looped (σ := Nat × QM × List Ba) (fun x => [(11, I x.1), (7, .ow 4 6 x.2.2.length)]) (fun x => [rwC (r1, r2, r3, ()), .cells (.cons (.mp 2) .nil), aoM x.2.1, .row false tB tyB a, .row true tB tyB x.2.2])
          (fun x => x.1 ≤ 60 ∧ QInv 60 x.2.1 ∧ a = x.2.2 ++ getQ x.2.1 (r1, r2, r3, ()) ∧ x.1 + (getQ x.2.1 (r1, r2, r3, ())).length ≤ 60) (fun x => 60 - x.1) (0, m, o) ⟨Nat.zero_le _, hq.mono (by omega), ha, by have := hq.get (r1, r2, r3, ()); dsimp only; omega⟩ ?_ ?_
        · conv => whnf
          refine ⟨rfl, leaf_i ?_⟩
          repeat' ((with_reducible refine And.intro ?_ ?_) <;> (try (conv => whnf)))
          all_goals (try (first | with_reducible rfl | exact True.intro | rfl | exact id | exact fun h => h | exact fun _ => rfl))
          all_goals first | rfl | trace_state
        · rintro ⟨k, m2, o2⟩ ⟨hk, hq2, ha2, hk2⟩
          dsimp only at hk hq2 ha2 hk2 ⊢
          have hb1 : ∀ r, ∀ b ∈ getQ m2 r, (recsB b).length ≤ 1000000000 := fun r b hb => Nat.le_trans (hq2.rc r b hb) (by decide)
          have hol : o2.length ≤ i := by have := congrArg List.length ha2; rw [List.length_append] at this; omega
          have hb4 : ∀ x : Ba, (o2 ++ [x]).length ≤ 1000000000 := fun x => by rw [List.length_append]; simp; omega
          have hb5 : a.length < 4611686018427387904 ∧ ∀ x ∈ a, (recsB x).length < 4611686018427387904 := ⟨by omega, fun x hx => Nat.lt_of_le_of_lt (har x hx) (by decide)⟩
          conv => whnf
          repeat' ((first
            | refine ⟨hb1 _, ?_⟩
            | refine ⟨hb4 _, ?_⟩
            | refine ⟨hb5, ?_⟩
            | with_reducible first | refine ⟨fun h => h, ?_⟩ | refine ⟨pk1, ?_⟩ | refine ⟨pk2, ?_⟩ | refine ⟨pk3, ?_⟩ | refine ⟨pk4, ?_⟩ | refine ⟨pk5, ?_⟩ | refine ⟨pk6, ?_⟩ | refine ⟨trivial, ?_⟩ | refine ⟨fun _ => trivial, ?_⟩ | refine ⟨rfl, ?_⟩ | refine every_i (fun hd => ?_) | refine everyN_i (fun k hk => ?_) | refine everyD_i (fun d hd => ?_) | refine fork_t (by assumption) ?_ | refine fork_f (by assumption) ?_
            | refine fork_t rfl ?_
            | refine fork_f rfl ?_
            | with_reducible first | refine fork_i (fun h => ?_) (fun h => ?_) | refine both_i ?_ ?_
            | ((with_reducible refine alike_i ?_); exact ⟨rfl, rfl, rfl⟩)
            | ((with_reducible refine fin_i ?_); (conv => whnf); refine ⟨rfl, ?_⟩)
            | refine ⟨of_decide_eq_true rfl, ?_⟩
            | refine ⟨fun _ => of_decide_eq_true rfl, ?_⟩
            | ((with_reducible refine ⟨?_, ?_⟩); (focus (intros; simp_all; done)))
            | ((with_reducible refine ⟨?_, ?_⟩); (focus (intros; omega)))) <;> (try (conv => whnf)))
          · have h1 : (takeQ m2 (r1, r2, r3, ())).2.1 = false := by
              have h : (!(takeQ m2 (r1, r2, r3, ())).2.1) = true := h
              simpa using h
            rw [(take_false h1).1, List.append_nil] at ha2
            all_goals ((with_reducible refine leaf_i ?_); (conv => whnf))
            repeat' ((with_reducible refine And.intro ?_ ?_) <;> (try (conv => whnf)))
            all_goals (try (first | with_reducible rfl | exact True.intro | rfl | exact id | exact fun h => h | exact fun _ => rfl))
            all_goals first | (rw [(sameBs_iff a o2).2 ha2]; first | done | rfl) | trace_state
          · have h1 : (takeQ m2 (r1, r2, r3, ())).2.1 = true := by
              have h : (!(takeQ m2 (r1, r2, r3, ())).2.1) = false := h
              simpa using h
            have hg := take_true h1
            have hgl : (getQ m2 (r1, r2, r3, ())).length = (getQ m2 (r1, r2, r3, ())).length - 1 + 1 := by rw [hg]; simp
            refine next_i (k + 1, leftQ m2 (r1, r2, r3, ()), o2 ++ [(takeQ m2 (r1, r2, r3, ())).1]) ⟨by dsimp only; omega, qinv_take hq2 _, ?_, ?_⟩ (by dsimp only; omega) rfl rfl ?_
            · dsimp only
              rw [getQ_left hq2.kd, if_pos rfl, List.append_assoc, List.singleton_append, ← hg, ha2]
            · dsimp only
              rw [getQ_left hq2.kd, if_pos rfl, List.length_drop]; omega
            · conv => whnf
              refine ⟨rfl, leaf_i ?_⟩
              repeat' ((with_reducible refine And.intro ?_ ?_) <;> (try (conv => whnf)))
              all_goals (try (first | with_reducible rfl | exact True.intro | rfl | exact id | exact fun h => h | exact fun _ => rfl))
              all_goals first | exact wrapS' (by omega) | rfl | (rw [List.length_append]; rfl) | trace_state
          · exfalso
            have h : decide ((k : Int) < 100) = false := h
            have := of_decide_eq_false h
            omega
end Go.Proofs.Ytdhpjpidcbplbaa

/- Rows of batches in plain Lean: how many there are; rows rise; what is taken, one behind the other. No program in sight. -/
namespace Go.Proofs.Ytdhpjpidcbplbaa
open Go Go.Sort Go.RowKit Go.Proofs Go.Proofs.Ytdhpjpidcbplbaa.Eng
theorem tot_put1 {m : QM} {r : Rw} {b : Ba} (h : (putP m r b).1 = 0) : totQ (putP m r b).2 = totQ m + 1 := by
  rw [(putP_zero h).1]
  have := tot_put r (getQ m r ++ [b]) m
  rw [List.length_append] at this
  simp at this; omega
theorem tot_take1 {n : Nat} {m : QM} (h : QInv n m) {r : Rw} (ht : (takeQ m r).2.1 = true) : totQ (leftQ m r) + 1 = totQ m := by
  have := tot_take h r
  rw [if_pos ht] at this; exact this
theorem mem_rows {m : QM} {r : Rw} : r ∈ rowsQ m ↔ r ∈ m.map (·.1) := (isrtQ_perm _).mem_iff
theorem rows_len {m : QM} : (rowsQ m).length = m.length := by unfold rowsQ; rw [isrtQ_len, List.length_map]
theorem rows_nodup {m : QM} (hk : kdQ m) : (rowsQ m).Nodup := (isrtQ_perm _).nodup_iff.2 hk
theorem get_no {m : QM} {r : Rw} (h : r ∉ rowsQ m) : getQ m r = [] := by
  unfold getQ
  rw [find_none fun p hp e => h (mem_rows.2 (List.mem_map.2 ⟨p, hp, e⟩))]; rfl
theorem get_ne {n : Nat} {m : QM} (h : QInv n m) {r : Rw} (hr : r ∈ rowsQ m) : getQ m r ≠ [] := by
  obtain ⟨p, hp, rfl⟩ := List.mem_map.1 (mem_rows.1 hr)
  unfold getQ
  rw [find_of_mem h.kd (v := p.2) hp]
  exact h.ne p hp
theorem nil_of_get {n : Nat} {m : QM} (h : QInv n m) (hg : ∀ r, getQ m r = []) : m = [] := by
  cases m with
  | nil => rfl
  | cons p m =>
    exfalso
    have := hg p.1
    unfold getQ at this
    rw [find_of_mem h.kd (v := p.2) (by simp)] at this
    exact h.ne p (by simp) this
theorem getE_get {t : Ty} {l : List (El t)} {j : Nat} (h : j < l.length) : getE t l j = l[j] := by
  unfold getE
  simp [List.getD_eq_getElem?_getD, h]
theorem rows_rise {m : QM} (hk : kdQ m) {j : Nat} (h : j + 1 < (rowsQ m).length) : aheadB (getE tQ (rowsQ m) j) (getE tQ (rowsQ m) (j + 1)) = true := by
  have hs := isrtQ_sorted (m.map (·.1))
  have hn := rows_nodup hk
  have h1 : leQ (rowsQ m)[j] (rowsQ m)[j + 1] = true := List.pairwise_iff_getElem.1 hs j (j + 1) (by unfold rowsQ at h; omega) h (by omega)
  have h2 : (rowsQ m)[j] ≠ (rowsQ m)[j + 1] := List.pairwise_iff_getElem.1 hn j (j + 1) (by omega) h (by omega)
  rw [getE_get h, getE_get (show j < (rowsQ m).length by omega), aheadB_iff]
  rw [leQ_iff] at h1
  unfold aheadP at h1 ⊢
  have : ¬ ((rowsQ m)[j].1 = (rowsQ m)[j + 1].1 ∧ (rowsQ m)[j].2.1 = (rowsQ m)[j + 1].2.1 ∧ (rowsQ m)[j].2.2.1 = (rowsQ m)[j + 1].2.2.1) := fun e => h2 (row_ext e.1 e.2.1 e.2.2)
  omega
theorem rows_out {m : QM} (hk : kdQ m) {j : Nat} (h : j < (rowsQ m).length) : getE tQ (rowsQ m) j ∉ (rowsQ m).take j := by
  intro hm
  obtain ⟨k, hk2, e⟩ := List.mem_take_iff_getElem.1 hm
  rw [getE_get h] at e
  have := (List.getElem_inj (rows_nodup hk)).1 e
  omega
theorem rows_in {m : QM} {j : Nat} (h : j < (rowsQ m).length) : getE tQ (rowsQ m) j ∈ rowsQ m := by
  rw [getE_get h]; exact List.getElem_mem _
theorem take_drop {m0 m : QM} {r : Rw} {k : Nat} (h : getQ m r = (getQ m0 r).drop k) (hk : k < (getQ m0 r).length) : takeQ m r = (getE tB (getQ m0 r) k, true, leftQ m r) := by
  rw [List.drop_eq_getElem_cons hk] at h
  unfold leftQ
  rw [left_cons h, getE_get hk]
theorem rows_bad {k : Nat} {n m : QM} {j : Nat} (hq : QInv k m) (hj : j < (rowsQ m).length) (hg : getQ n (getE tQ (rowsQ m) j) = getQ m (getE tQ (rowsQ m) j)) (hj6 : j ≤ 60) :
    (bif ((getQ n (getE tQ (rowsQ m) j)).length : Int) == 0 then true else bif decide ((j : Int) > 0) then !aheadB (getE tQ (rowsQ m) (IntKind.i64.wrap ((j : Int) - 1)).toNat) (getE tQ (rowsQ m) j) else false) = false := by
  have h1 : (((getQ n (getE tQ (rowsQ m) j)).length : Int) == 0) = false := by
    rw [hg]
    have := get_ne hq (rows_in hj)
    have : (getQ m (getE tQ (rowsQ m) j)).length ≠ 0 := fun e => this (List.eq_nil_of_length_eq_zero e)
    simp; exact fun e => this (by rw [e]; rfl)
  rw [h1, cond_false]
  cases j with
  | zero => rfl
  | succ i =>
    have h2 : decide (((i + 1 : Nat) : Int) > 0) = true := decide_eq_true (by omega)
    rw [h2, cond_true, wrapI (by omega) (by omega), show (((i + 1 : Nat) : Int) - 1).toNat = i by omega, rows_rise hq.kd hj]; rfl
end Go.Proofs.Ytdhpjpidcbplbaa

/- Layer 17: QueueCounts. -/
namespace Go.Proofs.Ytdhpjpidcbplbaa
set_option maxRecDepth 100000
open Go Go.RowKit Go.Proofs.Ytdhpjpidcbplbaa.Eng
def k_rises : Sig := .arg (shT tQ) fun a => .arg (shT tQ) fun b => .done { pre := True, res := B (aheadB a b) }
theorem c_rises : FnOk Try.prog 17 k_rises.con := by
  refine fnOkS mixed tys_ok (cs := []) trivial Try.func17 rfl (by kernel_rfl) Try.ntmps17 _ (h := ?_)
  rintro ⟨a1, a2, a3, ⟨⟩⟩ ⟨b1, b2, b3, ⟨⟩⟩
  refine ⟨rfl, fun hp => ?_⟩
  conv => whnf
  repeat' ((first
    | with_reducible first | refine ⟨fun h => h, ?_⟩ | refine ⟨pk1, ?_⟩ | refine ⟨pk2, ?_⟩ | refine ⟨pk3, ?_⟩ | refine ⟨pk4, ?_⟩ | refine ⟨pk5, ?_⟩ | refine ⟨pk6, ?_⟩ | refine ⟨trivial, ?_⟩ | refine ⟨fun _ => trivial, ?_⟩ | refine ⟨rfl, ?_⟩ | refine every_i (fun hd => ?_) | refine everyN_i (fun k hk => ?_) | refine everyD_i (fun d hd => ?_) | refine fork_t (by assumption) ?_ | refine fork_f (by assumption) ?_
    | refine fork_t rfl ?_
    | refine fork_f rfl ?_
    | with_reducible first | refine fork_i (fun h => ?_) (fun h => ?_) | refine both_i ?_ ?_
    | ((with_reducible refine alike_i ?_); exact ⟨rfl, rfl, rfl⟩)
    | ((with_reducible refine fin_i ?_); (conv => whnf); refine ⟨rfl, ?_⟩)
    | refine ⟨of_decide_eq_true rfl, ?_⟩
    | refine ⟨fun _ => of_decide_eq_true rfl, ?_⟩
    | ((with_reducible refine ⟨?_, ?_⟩); (focus (intros; simp_all; done)))
    | ((with_reducible refine ⟨?_, ?_⟩); (focus (intros; omega)))) <;> (try (conv => whnf)))
  all_goals ((with_reducible refine leaf_i ?_); (conv => whnf))
  repeat' ((with_reducible refine And.intro ?_ ?_) <;> (try (conv => whnf)))
  all_goals (try (first | with_reducible rfl | exact True.intro | rfl | exact id | exact fun h => h | exact fun _ => rfl))
  all_goals (simp at *; unfold aheadB; simp [*]; try omega)
def k_lcounts : Sig := .arg (shR tK) fun l => .done { pre := True, res := B true }
set_option maxHeartbeats 8000000 in
theorem c_lcounts : FnOk Try.prog 4 k_lcounts.con := by
  refine fnOkS mixed tys_ok (cs := [(8, k_few.con), (9, k_works.con), (10, k_new.con), (12, k_put.con), (11, k_take.con), (15, k_rows.con), (14, k_len.con), (16, k_all.con), (18, k_sameB.con), (17, k_rises.con)]) ⟨c_few, c_works, c_new, c_put, c_take, c_rows, c_len, c_all, c_sameB, c_rises, trivial⟩ Try.func4 rfl (by kernel_rfl) Try.ntmps4 _ (ms := [15]) (h := ?_)
  intro l
  refine ⟨rfl, fun hp => ?_⟩
  conv => whnf
  repeat' ((first
    | with_reducible first | refine ⟨fun h => h, ?_⟩ | refine ⟨pk1, ?_⟩ | refine ⟨pk2, ?_⟩ | refine ⟨pk3, ?_⟩ | refine ⟨pk4, ?_⟩ | refine ⟨pk5, ?_⟩ | refine ⟨pk6, ?_⟩ | refine ⟨trivial, ?_⟩ | refine ⟨fun _ => trivial, ?_⟩ | refine ⟨rfl, ?_⟩ | refine every_i (fun hd => ?_) | refine everyN_i (fun k hk => ?_) | refine everyD_i (fun d hd => ?_) | refine fork_t (by assumption) ?_ | refine fork_f (by assumption) ?_
    | refine fork_t rfl ?_
    | refine fork_f rfl ?_
    | with_reducible first | refine fork_i (fun h => ?_) (fun h => ?_) | refine both_i ?_ ?_
    | ((with_reducible refine alike_i ?_); exact ⟨rfl, rfl, rfl⟩)
    | ((with_reducible refine fin_i ?_); (conv => whnf); refine ⟨rfl, ?_⟩)
    | refine ⟨of_decide_eq_true rfl, ?_⟩
    | refine ⟨fun _ => of_decide_eq_true rfl, ?_⟩
    | ((with_reducible refine ⟨?_, ?_⟩); (focus (intros; simp_all; done)))
    | ((with_reducible refine ⟨?_, ?_⟩); (focus (intros; omega)))) <;> (try (conv => whnf)))
  · all_goals ((with_reducible refine leaf_i ?_); (conv => whnf))
    repeat' ((with_reducible refine And.intro ?_ ?_) <;> (try (conv => whnf)))
    all_goals (try (first | with_reducible rfl | exact True.intro | rfl | exact id | exact fun h => h | exact fun _ => rfl))
  · have hf : fewB l = true := by
      have h : (!fewB l) = false := h
      simpa using h
    have hl60 := few_len hf
    refine only [3, 0] ?_
    (conv => whnf)
    refine looped (σ := Nat × QM) (fun x => [(5, I x.1), (4, I (totQ x.2))]) (fun x => [.cells (.cons (.mp 1) .nil), aoM x.2])
      (fun x => x.1 ≤ l.length ∧ QInv x.1 x.2) (fun x => l.length - x.1) (0, []) ⟨Nat.zero_le _, qinv_nil⟩ ?_ ?_
    · conv => whnf
      refine ⟨rfl, leaf_i ?_⟩
      repeat' ((with_reducible refine And.intro ?_ ?_) <;> (try (conv => whnf)))
      all_goals (try (first | with_reducible rfl | exact True.intro | rfl | exact id | exact fun h => h | exact fun _ => rfl))
      all_goals first | rfl | trace_state
    · rintro ⟨i, m⟩ ⟨hi, hq⟩
      dsimp only at hi hq ⊢
      have hb1 : ∀ r, ∀ b ∈ getQ m r, (recsB b).length ≤ 1000000000 := fun r b hb => Nat.le_trans (hq.rc r b hb) (by decide)
      have hb2 : ∀ r, (getQ m r).length < 1000000000 := fun r => Nat.lt_of_le_of_lt (hq.get r) (by omega)
      have hb3 : decide ((i : Int) < (l.length : Int)) = true → (recsK (getE tK l i)).length ≤ 1000000000 := fun h => Nat.le_trans (few_recs hf (lt_t' h)) (by decide)
      have hb4 : m.length ≤ 1000000000 := Nat.le_trans hq.len (by omega)
      have hb5 : lenQ m (rowsQ m) ≤ 1000000000 := by rw [lenQ_tot hq]; exact Nat.le_trans hq.tot (by omega)
      conv => whnf
      repeat' ((first
        | refine ⟨hb1 _, ?_⟩
        | refine ⟨⟨hb3 (by assumption), hb2 _⟩, ?_⟩
        | refine ⟨⟨hb4, hb5⟩, ?_⟩
        | refine ⟨hb4, ?_⟩
        | with_reducible first | refine ⟨fun h => h, ?_⟩ | refine ⟨pk1, ?_⟩ | refine ⟨pk2, ?_⟩ | refine ⟨pk3, ?_⟩ | refine ⟨pk4, ?_⟩ | refine ⟨pk5, ?_⟩ | refine ⟨pk6, ?_⟩ | refine ⟨trivial, ?_⟩ | refine ⟨fun _ => trivial, ?_⟩ | refine ⟨rfl, ?_⟩ | refine every_i (fun hd => ?_) | refine everyN_i (fun k hk => ?_) | refine everyD_i (fun d hd => ?_) | refine fork_t (by assumption) ?_ | refine fork_f (by assumption) ?_
        | refine fork_t rfl ?_
        | refine fork_f rfl ?_
        | with_reducible first | refine fork_i (fun h => ?_) (fun h => ?_) | refine both_i ?_ ?_
        | ((with_reducible refine alike_i ?_); exact ⟨rfl, rfl, rfl⟩)
        | ((with_reducible refine fin_i ?_); (conv => whnf); refine ⟨rfl, ?_⟩)
        | refine ⟨of_decide_eq_true rfl, ?_⟩
        | refine ⟨fun _ => of_decide_eq_true rfl, ?_⟩
        | ((with_reducible refine ⟨?_, ?_⟩); (focus (intros; simp_all; done)))
        | ((with_reducible refine ⟨?_, ?_⟩); (focus (intros; omega)))) <;> (try (conv => whnf)))
      · -- taken
        rename_i hlt _
        have hlt := lt_t' hlt
        have h1 : (takeQ m (rowK (getE tK l i))).2.1 = true := h
        have ht := tot_take1 hq h1
        refine next_i (i + 1, leftQ m (rowK (getE tK l i))) ⟨hlt, (qinv_take hq _).mono (Nat.le_succ _)⟩ (by dsimp only; omega) rfl rfl ?_
        conv => whnf
        refine ⟨rfl, leaf_i ?_⟩
        repeat' ((with_reducible refine And.intro ?_ ?_) <;> (try (conv => whnf)))
        all_goals (try (first | with_reducible rfl | exact True.intro | rfl | exact id | exact fun h => h | exact fun _ => rfl))
        all_goals first | exact wrapS' (by omega) | (rw [← ht]; show IntKind.i64.wrap (((totQ (leftQ m (rowK (getE tK l i))) + 1 : Nat) : Int) - 1) = _; rw [Int.natCast_add, Int.natCast_one, Int.add_sub_cancel]; exact wrapI (by omega) (by have := hq.tot; omega)) | rfl | trace_state
      · -- nothing to take
        rename_i hlt _
        have hlt := lt_t' hlt
        have h1 : (takeQ m (rowK (getE tK l i))).2.1 = false := h
        have h2 : leftQ m (rowK (getE tK l i)) = m := by unfold leftQ; rw [(take_false h1).2]
        refine next_i (i + 1, leftQ m (rowK (getE tK l i))) ⟨hlt, (qinv_take hq _).mono (Nat.le_succ _)⟩ (by dsimp only; omega) rfl rfl ?_
        conv => whnf
        refine ⟨rfl, leaf_i ?_⟩
        repeat' ((with_reducible refine And.intro ?_ ?_) <;> (try (conv => whnf)))
        all_goals (try (first | with_reducible rfl | exact True.intro | rfl | exact id | exact fun h => h | exact fun _ => rfl))
        all_goals first | exact wrapS' (by omega) | (rw [h2]; first | done | rfl) | rfl | trace_state
      · -- put
        rename_i hlt _
        have hlt := lt_t' hlt
        have h1 : (putP m (rowK (getE tK l i)) (batK (getE tK l i))).1 = 0 := eq_of_beq h
        have ht := tot_put1 h1
        have hrl : (recsB (batK (getE tK l i))).length ≤ 20 := few_recs hf hlt
        refine next_i (i + 1, (putP m (rowK (getE tK l i)) (batK (getE tK l i))).2) ⟨hlt, qinv_putP hq _ _ hrl⟩ (by dsimp only; omega) rfl rfl ?_
        conv => whnf
        refine ⟨rfl, leaf_i ?_⟩
        repeat' ((with_reducible refine And.intro ?_ ?_) <;> (try (conv => whnf)))
        all_goals (try (first | with_reducible rfl | exact True.intro | rfl | exact id | exact fun h => h | exact fun _ => rfl))
        all_goals first | exact wrapS' (by omega) | (rw [ht]; exact wrapS' (by have := hq.tot; omega)) | rfl | trace_state
      · -- not put
        rename_i hlt _
        have hlt := lt_t' hlt
        have h1 : (putP m (rowK (getE tK l i)) (batK (getE tK l i))).1 ≠ 0 := fun e => by
          have h : ((putP m (rowK (getE tK l i)) (batK (getE tK l i))).1 == 0) = false := h
          rw [e] at h; cases h
        have h2 := putP_ne h1
        have hrl : (recsB (batK (getE tK l i))).length ≤ 20 := few_recs hf hlt
        refine next_i (i + 1, (putP m (rowK (getE tK l i)) (batK (getE tK l i))).2) ⟨hlt, qinv_putP hq _ _ hrl⟩ (by dsimp only; omega) rfl rfl ?_
        conv => whnf
        refine ⟨rfl, leaf_i ?_⟩
        repeat' ((with_reducible refine And.intro ?_ ?_) <;> (try (conv => whnf)))
        all_goals (try (first | with_reducible rfl | exact True.intro | rfl | exact id | exact fun h => h | exact fun _ => rfl))
        all_goals first | exact wrapS' (by omega) | (rw [h2]; first | done | rfl) | rfl | trace_state
      · -- so many are there
        exfalso
        have h : ((lenQ m (rowsQ m) : Int) != (totQ m : Int)) = true := h
        rw [lenQ_tot hq] at h; simp at h
      · clear h
        have hil : l.length ≤ i := lt_f' (by assumption)
        refine only [8, 3] ?_
        (conv => whnf)
        refine looped (σ := Nat × QM) (fun x => [(9, I x.1)]) (fun x => [.cells (.cons (.mp 1) .nil), aoM x.2, .row true tQ tyE (rowsQ m)])
          (fun x => x.1 ≤ (rowsQ m).length ∧ QInv 60 x.2 ∧ (∀ r, r ∈ (rowsQ m).take x.1 → getQ x.2 r = []) ∧ ∀ r, r ∉ (rowsQ m).take x.1 → getQ x.2 r = getQ m r) (fun x => (rowsQ m).length - x.1) (0, m) ⟨Nat.zero_le _, hq.mono (by omega), fun r hr => absurd (show r ∈ ([] : List Rw) from hr) (by simp), fun r _ => rfl⟩ ?_ ?_
        · conv => whnf
          refine ⟨rfl, leaf_i ?_⟩
          repeat' ((with_reducible refine And.intro ?_ ?_) <;> (try (conv => whnf)))
          all_goals (try (first | with_reducible rfl | exact True.intro | rfl | exact id | exact fun h => h | exact fun _ => rfl))
          all_goals first | rfl | trace_state
        · rintro ⟨j, n⟩ ⟨hj, hn, h0, hg⟩
          dsimp only at hj hn h0 hg ⊢
          have hc1 : ∀ r, ∀ b ∈ getQ n r, (recsB b).length ≤ 1000000000 := fun r b hb => Nat.le_trans (hn.rc r b hb) (by decide)
          have hc2 : ∀ r, (getQ n r).length ≤ 1000000000 := fun r => Nat.le_trans (hn.get r) (by omega)
          have hjn : j ≤ 60 := by have := hq.len; rw [rows_len] at hj; omega
          have hc3 : decide ((j : Int) < (m.length : Int)) = true → ∀ c : Bool, (c && decide ((j : Int) > 0) == true) = true → 0 ≤ IntKind.i64.wrap ((j : Int) - 1) ∧ IntKind.i64.wrap ((j : Int) - 1) < (m.length : Int) := fun h c hc => by
            have := lt_t' h
            have hc : 0 < j := by simp at hc; omega
            rw [wrapI (x := (j : Int) - 1) (by omega) (by omega)]; omega
          conv => whnf
          repeat' ((first
            | refine ⟨⟨hc2 _, hc1 _⟩, ?_⟩
            | refine ⟨hc1 _, ?_⟩
            | refine ⟨hc3 (by assumption) _, ?_⟩
            | with_reducible first | refine ⟨fun h => h, ?_⟩ | refine ⟨pk1, ?_⟩ | refine ⟨pk2, ?_⟩ | refine ⟨pk3, ?_⟩ | refine ⟨pk4, ?_⟩ | refine ⟨pk5, ?_⟩ | refine ⟨pk6, ?_⟩ | refine ⟨trivial, ?_⟩ | refine ⟨fun _ => trivial, ?_⟩ | refine ⟨rfl, ?_⟩ | refine every_i (fun hd => ?_) | refine everyN_i (fun k hk => ?_) | refine everyD_i (fun d hd => ?_) | refine fork_t (by assumption) ?_ | refine fork_f (by assumption) ?_
            | refine fork_t rfl ?_
            | refine fork_f rfl ?_
            | with_reducible first | refine fork_i (fun h => ?_) (fun h => ?_) | refine both_i ?_ ?_
            | ((with_reducible refine alike_i ?_); exact ⟨rfl, rfl, rfl⟩)
            | ((with_reducible refine fin_i ?_); (conv => whnf); refine ⟨rfl, ?_⟩)
            | refine ⟨of_decide_eq_true rfl, ?_⟩
            | refine ⟨fun _ => of_decide_eq_true rfl, ?_⟩
            | ((with_reducible refine ⟨?_, ?_⟩); (focus (intros; simp_all; done)))
            | ((with_reducible refine ⟨?_, ?_⟩); (focus (intros; omega)))) <;> (try (conv => whnf)))
          · exfalso
            have hlt : j < (rowsQ m).length := by rw [rows_len]; exact lt_t' (by assumption)
            exact Bool.false_ne_true ((rows_bad (n := n) hq hlt (hg _ (rows_out hq.kd hlt)) hjn).symm.trans h)
          · clear h
            have hlt : j < (rowsQ m).length := by rw [rows_len]; exact lt_t' (by assumption)
            have hgj := hg _ (rows_out hq.kd hlt)
            have hl0 : (getQ n (getE tQ (rowsQ m) j)).length ≤ 60 := hn.get _
            refine only [10, 9, 8, 3] ?_
            (conv => whnf)
            refine looped (σ := Nat × QM) (fun x => [(11, I x.1)]) (fun x => [.cells (.cons (.mp 1) .nil), aoM x.2, .row true tQ tyE (rowsQ m)])
              (fun x => x.1 ≤ (getQ n (getE tQ (rowsQ m) j)).length ∧ QInv 60 x.2 ∧ getQ x.2 (getE tQ (rowsQ m) j) = (getQ n (getE tQ (rowsQ m) j)).drop x.1 ∧ ∀ r, r ≠ getE tQ (rowsQ m) j → getQ x.2 r = getQ n r) (fun x => (getQ n (getE tQ (rowsQ m) j)).length - x.1) (0, n) ⟨Nat.zero_le _, hn, rfl, fun r _ => rfl⟩ ?_ ?_
            · conv => whnf
              refine ⟨rfl, leaf_i ?_⟩
              repeat' ((with_reducible refine And.intro ?_ ?_) <;> (try (conv => whnf)))
              all_goals (try (first | with_reducible rfl | exact True.intro | rfl | exact id | exact fun h => h | exact fun _ => rfl))
              all_goals first | rfl | trace_state
            · rintro ⟨k, o⟩ ⟨hk, ho, hd, hr⟩
              dsimp only at hk ho hd hr ⊢
              have hd1 : ∀ r, ∀ b ∈ getQ o r, (recsB b).length ≤ 1000000000 := fun r b hb => Nat.le_trans (ho.rc r b hb) (by decide)
              have hd2 : (recsB (takeQ o (getE tQ (rowsQ m) j)).1).length < 4611686018427387904 := by
                cases hq2 : getQ o (getE tQ (rowsQ m) j) with
                | nil => rw [left_nil hq2]; exact (show (0 : Nat) < 4611686018427387904 by decide)
                | cons b r =>
                  rw [left_cons hq2]
                  exact Nat.lt_of_le_of_lt (hd1 (getE tQ (rowsQ m) j) b (by rw [hq2]; simp)) (by decide)
              conv => whnf
              repeat' ((first
                | refine ⟨hd1 _, ?_⟩
                | refine ⟨hd2, ?_⟩
                | with_reducible first | refine ⟨fun h => h, ?_⟩ | refine ⟨pk1, ?_⟩ | refine ⟨pk2, ?_⟩ | refine ⟨pk3, ?_⟩ | refine ⟨pk4, ?_⟩ | refine ⟨pk5, ?_⟩ | refine ⟨pk6, ?_⟩ | refine ⟨trivial, ?_⟩ | refine ⟨fun _ => trivial, ?_⟩ | refine ⟨rfl, ?_⟩ | refine every_i (fun hd => ?_) | refine everyN_i (fun k hk => ?_) | refine everyD_i (fun d hd => ?_) | refine fork_t (by assumption) ?_ | refine fork_f (by assumption) ?_
                | refine fork_t rfl ?_
                | refine fork_f rfl ?_
                | with_reducible first | refine fork_i (fun h => ?_) (fun h => ?_) | refine both_i ?_ ?_
                | ((with_reducible refine alike_i ?_); exact ⟨rfl, rfl, rfl⟩)
                | ((with_reducible refine fin_i ?_); (conv => whnf); refine ⟨rfl, ?_⟩)
                | refine ⟨of_decide_eq_true rfl, ?_⟩
                | refine ⟨fun _ => of_decide_eq_true rfl, ?_⟩
                | ((with_reducible refine ⟨?_, ?_⟩); (focus (intros; simp_all; done)))
                | ((with_reducible refine ⟨?_, ?_⟩); (focus (intros; omega)))) <;> (try (conv => whnf)))
              · -- not what All told
                exfalso
                have hkl : k < (getQ n (getE tQ (rowsQ m) j)).length := lt_t' (by assumption)
                have hb : (bif !(takeQ o (getE tQ (rowsQ m) j)).2.1 then true else !sameB (takeQ o (getE tQ (rowsQ m) j)).1 (getE tB (getQ n (getE tQ (rowsQ m) j)) k)) = false := by
                  rw [take_drop hd hkl]
                  show (!sameB (getE tB (getQ n (getE tQ (rowsQ m) j)) k) (getE tB (getQ n (getE tQ (rowsQ m) j)) k)) = false
                  rw [(sameB_iff _ _).2 rfl]; rfl
                exact Bool.false_ne_true (hb.symm.trans h)
              · -- the next one
                have hkl : k < (getQ n (getE tQ (rowsQ m) j)).length := lt_t' (by assumption)
                refine next_i (k + 1, leftQ o (getE tQ (rowsQ m) j)) ⟨hkl, qinv_take ho _, ?_, fun r hne => ?_⟩ (by dsimp only; omega) rfl rfl ?_
                · dsimp only
                  rw [getQ_left ho.kd, if_pos rfl, hd, List.drop_drop, Nat.add_comm]
                · dsimp only
                  rw [getQ_left ho.kd, if_neg hne]; exact hr r hne
                · conv => whnf
                  refine ⟨rfl, leaf_i ?_⟩
                  repeat' ((with_reducible refine And.intro ?_ ?_) <;> (try (conv => whnf)))
                  all_goals (try (first | with_reducible rfl | exact True.intro | rfl | exact id | exact fun h => h | exact fun _ => rfl))
                  all_goals first | exact wrapS' (by omega) | rfl | trace_state
              · -- one more is there
                exfalso
                have hkl : (getQ n (getE tQ (rowsQ m) j)).length ≤ k := lt_f' (by assumption)
                rw [List.drop_eq_nil_of_le hkl] at hd
                have h : (takeQ o (getE tQ (rowsQ m) j)).2.1 = true := h
                rw [left_nil hd] at h; cases h
              · -- the next row
                have hkl : (getQ n (getE tQ (rowsQ m) j)).length ≤ k := lt_f' (by assumption)
                rw [List.drop_eq_nil_of_le hkl] at hd
                have h2 : leftQ o (getE tQ (rowsQ m) j) = o := by unfold leftQ; rw [left_nil hd]
                have hin : ∀ r, r ∈ (rowsQ m).take (j + 1) ↔ r ∈ (rowsQ m).take j ∨ r = getE tQ (rowsQ m) j := fun r => by
                  rw [take_get (t := tQ) _ hlt, List.mem_append]; simp
                refine next_i (j + 1, leftQ o (getE tQ (rowsQ m) j)) ⟨hlt, qinv_take ho _, fun r hm => ?_, fun r hm => ?_⟩ (by dsimp only; omega) rfl rfl ?_
                · dsimp only at hm ⊢
                  rw [h2]
                  rcases (hin r).1 hm with e | e
                  · by_cases e2 : r = getE tQ (rowsQ m) j
                    · rw [e2]; exact hd
                    · rw [hr r e2]; exact h0 r e
                  · rw [e]; exact hd
                · dsimp only at hm ⊢
                  rw [h2, hr r (fun e => hm ((hin r).2 (.inr e)))]
                  exact hg r (fun e => hm ((hin r).2 (.inl e)))
                · conv => whnf
                  refine ⟨rfl, leaf_i ?_⟩
                  repeat' ((with_reducible refine And.intro ?_ ?_) <;> (try (conv => whnf)))
                  all_goals (try (first | with_reducible rfl | exact True.intro | rfl | exact id | exact fun h => h | exact fun _ => rfl))
                  all_goals first | exact wrapS' (by omega) | rfl | trace_state
          · have hlt : (rowsQ m).length ≤ j := by rw [rows_len]; exact lt_f' (by assumption)
            rw [List.take_of_length_le hlt] at h0 hg
            have hn0 : n = [] := nil_of_get hn fun r => by
              by_cases hr : r ∈ rowsQ m
              · exact h0 r hr
              · rw [hg r hr]; exact get_no hr
            subst hn0
            conv => whnf
            repeat' ((first
              | refine ⟨⟨by decide +kernel, by decide +kernel⟩, ?_⟩
              | refine ⟨fun _ => by decide +kernel, ?_⟩
              | with_reducible first | refine ⟨fun h => h, ?_⟩ | refine ⟨pk1, ?_⟩ | refine ⟨pk2, ?_⟩ | refine ⟨pk3, ?_⟩ | refine ⟨pk4, ?_⟩ | refine ⟨pk5, ?_⟩ | refine ⟨pk6, ?_⟩ | refine ⟨trivial, ?_⟩ | refine ⟨fun _ => trivial, ?_⟩ | refine ⟨rfl, ?_⟩ | refine every_i (fun hd => ?_) | refine everyN_i (fun k hk => ?_) | refine everyD_i (fun d hd => ?_) | refine fork_t (by assumption) ?_ | refine fork_f (by assumption) ?_
              | refine fork_t rfl ?_
              | refine fork_f rfl ?_
              | with_reducible first | refine fork_i (fun h => ?_) (fun h => ?_) | refine both_i ?_ ?_
              | ((with_reducible refine alike_i ?_); exact ⟨rfl, rfl, rfl⟩)
              | ((with_reducible refine fin_i ?_); (conv => whnf); refine ⟨rfl, ?_⟩)
              | refine ⟨of_decide_eq_true rfl, ?_⟩
              | refine ⟨fun _ => of_decide_eq_true rfl, ?_⟩
              | ((with_reducible refine ⟨?_, ?_⟩); (focus (intros; simp_all; done)))
              | ((with_reducible refine ⟨?_, ?_⟩); (focus (intros; omega)))) <;> (try (conv => whnf)))
            all_goals ((with_reducible refine leaf_i ?_); (conv => whnf))
            repeat' ((with_reducible refine And.intro ?_ ?_) <;> (try (conv => whnf)))
            all_goals (try (first | with_reducible rfl | exact True.intro | rfl | exact id | exact fun h => h | exact fun _ => rfl))
            all_goals first | kernel_rfl | trace_state
end Go.Proofs.Ytdhpjpidcbplbaa
