/- Layer 8: the closure of Least, ContainsFunc of it. -/
import Derived.Test.YthlkhjfilfdpiaaD08G
import Derived.Test.YthlkhjfilfdpiaaF17
namespace Go.Proofs.Ythlkhjfilfdpiaa
set_option linter.unusedVariables false
set_option linter.unusedSimpArgs false
set_option maxRecDepth 100000
open Go Go.RowKit Go.Proofs.Ythlkhjfilfdpiaa.Eng

abbrev tS : Ty := .int .i64 (.int .i64 (.int .i64 (.int .i64 (.int .i64 (.int .i64 (.int .i64 .nil))))))
def toS (x : El tS) : Sm := ⟨x.1, x.2.1, x.2.2.1, x.2.2.2.1, x.2.2.2.2.1, x.2.2.2.2.2.1, x.2.2.2.2.2.2.1⟩
def ofSm (s : Sm) : El tS := (s.f, s.t, s.k, s.n, s.a, s.b, s.c, ())
def eqS (x y : El tS) : Bool := (x.1 == y.1) && ((x.2.1 == y.2.1) && ((x.2.2.1 == y.2.2.1) && ((x.2.2.2.1 == y.2.2.2.1) && ((x.2.2.2.2.1 == y.2.2.2.2.1) && ((x.2.2.2.2.2.1 == y.2.2.2.2.2.1) && ((x.2.2.2.2.2.2.1 == y.2.2.2.2.2.2.1) && true))))))
/-- A struct's cells, only read. -/
def rpE (x : El tS) : AV := .rp 7 (fun y => nthD (encC false tS x) y) 0
def gI : AV → Option Int
  | .v (.int .i64 n) => some n
  | _ => none
theorem gI_ok {v : AV} {n : Int} (h : gI v = some n) : v = I n := by
  unfold gI at h
  split at h
  · injection h with h; subst h; rfl
  · cases h
def gRpS : AV → Option (El tS)
  | .rp 7 e 0 => match gI (e 0), gI (e 1), gI (e 2), gI (e 3), gI (e 4), gI (e 5), gI (e 6) with
    | some f, some t, some k, some n, some a, some b, some c => some (f, t, k, n, a, b, c, ())
    | _, _, _, _, _, _, _ => none
  | _ => none
theorem gRpS_ok {v : AV} {x : El tS} (h : gRpS v = some x) (c : Cx) (vs : List Value) (hs : sat v c vs) : sat (rpE x) c vs := by
  unfold gRpS at h
  split at h
  · rename_i e
    split at h
    · rename_i f t k n a b c' h0 h1 h2 h3 h4 h5 h6
      injection h with h; subst h
      obtain ⟨bl, q, hv, hO, hb, hc⟩ := hs
      refine ⟨bl, q, hv, hO, hb, fun j hj => ?_⟩
      obtain ⟨y, hy, hsy⟩ := hc j hj
      refine ⟨y, hy, ?_⟩
      rcases (by omega : j = 0 ∨ j = 1 ∨ j = 2 ∨ j = 3 ∨ j = 4 ∨ j = 5 ∨ j = 6) with rfl | rfl | rfl | rfl | rfl | rfl | rfl
      · rw [gI_ok h0] at hsy; exact hsy
      · rw [gI_ok h1] at hsy; exact hsy
      · rw [gI_ok h2] at hsy; exact hsy
      · rw [gI_ok h3] at hsy; exact hsy
      · rw [gI_ok h4] at hsy; exact hsy
      · rw [gI_ok h5] at hsy; exact hsy
      · rw [gI_ok h6] at hsy; exact hsy
    · cases h
  · cases h
def shRpS : Sh (El tS) := ⟨gRpS, rpE, fun _ _ h c vs hs => gRpS_ok h c vs hs⟩
/-- A function that has captured a place that is only read. -/
def gFP (f : FuncId) : AV → Option (El tS)
  | .fn g (.cons v .nil) => bif Nat.beq f g then gRpS v else none
  | _ => none
def shFP (f : FuncId) : Sh (El tS) := ⟨gFP f, fun x => .fn f (.cons (rpE x) .nil), fun v x h c vs hs => by
  unfold gFP at h
  split at h
  · rename_i g v
    cases hb : Nat.beq f g with
    | false => rw [hb] at h; cases h
    | true =>
      rw [hb] at h
      have := Nat.eq_of_beq_eq_true hb
      subst this
      obtain ⟨cs, e, y, r, e2, h1, h2⟩ := hs
      exact ⟨cs, e, y, r, e2, gRpS_ok h c _ h1, h2⟩
  · cases h⟩
def aheadS (s r : El tS) : Bool := bif !eqS r s then leS (toS r) (toS s) else false
def k_least1 : Sig := .arg (shT tS) fun r => .arg shRpS fun s => .done { pre := True, res := B (aheadS s r) }
set_option maxHeartbeats 4000000 in
theorem c_least1 : FnOk Try.prog 35 k_least1.con := by
  refine fnOkS mixed tys_ok (cs := [(21, k_leS.con)]) ⟨c_leS, trivial⟩ Try.func35 rfl (by kernel_rfl) Try.ntmps35 _ (h := ?_)
  rintro r s
  refine ⟨rfl, fun _ => ?_⟩
  conv => whnf
  repeat' ((first
    | with_reducible refine ⟨fun h => h, ?_⟩
    | with_reducible refine ⟨pk1, ?_⟩
    | with_reducible refine ⟨pk2, ?_⟩
    | with_reducible refine ⟨pk3, ?_⟩
    | with_reducible refine ⟨pk4, ?_⟩
    | with_reducible refine ⟨pk5, ?_⟩
    | with_reducible refine ⟨pk6, ?_⟩
    | with_reducible refine ⟨trivial, ?_⟩
    | with_reducible refine ⟨fun _ => trivial, ?_⟩
    | with_reducible refine fork_t (by assumption) ?_
    | with_reducible refine fork_f (by assumption) ?_
    | refine fork_t rfl ?_
    | refine fork_f rfl ?_
    | with_reducible refine fork_i (fun h => ?_) (fun h => ?_)
    | with_reducible refine both_i ?_ ?_
    | ((with_reducible refine alike_i ?_); exact ⟨rfl, rfl, rfl⟩)
    | ((with_reducible refine fin_i ?_); (conv => whnf); refine ⟨rfl, ?_⟩)
    | refine ⟨of_decide_eq_true rfl, ?_⟩
    | refine ⟨fun _ => of_decide_eq_true rfl, ?_⟩
    | ((with_reducible refine ⟨?_, ?_⟩); (focus (intros; simp_all; done)))
    | ((with_reducible refine ⟨?_, ?_⟩); (focus (intros; omega)))) <;> (try (conv => whnf)))
  all_goals ((with_reducible refine leaf_i ?_); (conv => whnf))
  repeat' ((with_reducible refine And.intro ?_ ?_) <;> (try (conv => whnf)))
  all_goals (try (first | with_reducible rfl | exact True.intro | rfl | exact id | exact fun h => h | exact fun _ => rfl))
  all_goals rfl

def idxA (s : El tS) : Nat → List (El tS) → Int
  | _, [] => -1
  | j, x :: r => if aheadS s x = true then (j : Int) else idxA s (j + 1) r
def k_idxA : Sig := .arg (shR tS) fun l => .arg (shFP 35) fun s => .done { pre := l.length < 4611686018427387904, res := I (idxA s 0 l) }

set_option maxHeartbeats 4000000 in
theorem c_idxA : FnOk Try.prog 42 k_idxA.con := by
  refine fnOkS mixed tys_ok (cs := [(35, k_least1.con)]) ⟨c_least1, trivial⟩ Try.func42 rfl (by kernel_rfl) Try.ntmps42 _ (h := ?_)
  intro g s
  refine ⟨rfl, fun hp => ?_⟩
  conv => whnf
  repeat' ((first
    | with_reducible refine ⟨fun h => h, ?_⟩
    | with_reducible refine ⟨pk1, ?_⟩
    | with_reducible refine ⟨pk2, ?_⟩
    | with_reducible refine ⟨pk3, ?_⟩
    | with_reducible refine ⟨pk4, ?_⟩
    | with_reducible refine ⟨pk5, ?_⟩
    | with_reducible refine ⟨pk6, ?_⟩
    | with_reducible refine ⟨trivial, ?_⟩
    | with_reducible refine ⟨fun _ => trivial, ?_⟩
    | with_reducible refine fork_t (by assumption) ?_
    | with_reducible refine fork_f (by assumption) ?_
    | refine fork_t rfl ?_
    | refine fork_f rfl ?_
    | with_reducible refine fork_i (fun h => ?_) (fun h => ?_)
    | with_reducible refine both_i ?_ ?_
    | ((with_reducible refine alike_i ?_); exact ⟨rfl, rfl, rfl⟩)
    | ((with_reducible refine fin_i ?_); (conv => whnf); refine ⟨rfl, ?_⟩)
    | refine ⟨of_decide_eq_true rfl, ?_⟩
    | refine ⟨fun _ => of_decide_eq_true rfl, ?_⟩
    | ((with_reducible refine ⟨?_, ?_⟩); (focus (intros; simp_all; done)))
    | ((with_reducible refine ⟨?_, ?_⟩); (focus (intros; omega)))) <;> (try (conv => whnf)))
  refine looped (σ := Nat) (fun j => [(8, I j)]) (fun _ => []) (fun j => j ≤ g.length ∧ idxA s j (g.drop j) = idxA s 0 g) (fun j => g.length - j) 0 ⟨Nat.zero_le _, rfl⟩ ?_ ?_
  · conv => whnf
    refine ⟨rfl, leaf_i ?_⟩
    repeat' ((with_reducible refine And.intro ?_ ?_) <;> (try (conv => whnf)))
    all_goals (try (first | with_reducible rfl | exact True.intro | rfl | exact id | exact fun h => h | exact fun _ => rfl))
  · rintro j ⟨hj, hl⟩
    dsimp only at hj hl ⊢
    conv => whnf
    repeat' ((first
      | with_reducible refine ⟨fun h => h, ?_⟩
      | with_reducible refine ⟨pk1, ?_⟩
      | with_reducible refine ⟨pk2, ?_⟩
      | with_reducible refine ⟨pk3, ?_⟩
      | with_reducible refine ⟨pk4, ?_⟩
      | with_reducible refine ⟨pk5, ?_⟩
      | with_reducible refine ⟨pk6, ?_⟩
      | with_reducible refine ⟨trivial, ?_⟩
      | with_reducible refine ⟨fun _ => trivial, ?_⟩
      | with_reducible refine fork_t (by assumption) ?_
      | with_reducible refine fork_f (by assumption) ?_
      | refine fork_t rfl ?_
      | refine fork_f rfl ?_
      | with_reducible refine fork_i (fun h => ?_) (fun h => ?_)
      | with_reducible refine both_i ?_ ?_
      | ((with_reducible refine alike_i ?_); exact ⟨rfl, rfl, rfl⟩)
      | ((with_reducible refine fin_i ?_); (conv => whnf); refine ⟨rfl, ?_⟩)
      | refine ⟨of_decide_eq_true rfl, ?_⟩
      | refine ⟨fun _ => of_decide_eq_true rfl, ?_⟩
      | ((with_reducible refine ⟨?_, ?_⟩); (focus (intros; simp_all; done)))
      | ((with_reducible refine ⟨?_, ?_⟩); (focus (intros; omega)))) <;> (try (conv => whnf)))
    · rename_i hj'
      have hj' := lt_t' hj'
      have h : aheadS s (getE tS g j) = true := h
      rw [drop_get' _ hj', idxA, if_pos h] at hl
      all_goals ((with_reducible refine leaf_i ?_); (conv => whnf))
      repeat' ((with_reducible refine And.intro ?_ ?_) <;> (try (conv => whnf)))
      all_goals (try (first | with_reducible rfl | exact True.intro | rfl | exact id | exact fun h => h | exact fun _ => rfl))
      all_goals first | exact hl | rfl
    · rename_i hj'
      have hj' := lt_t' hj'
      have h' : ¬ aheadS s (getE tS g j) = true := fun hh => Bool.noConfusion (h.symm.trans hh)
      rw [drop_get' _ hj', idxA, if_neg h'] at hl
      refine next_i (j + 1) ⟨hj', hl⟩ (by omega) rfl rfl ?_
      conv => whnf
      refine ⟨rfl, leaf_i ?_⟩
      repeat' ((with_reducible refine And.intro ?_ ?_) <;> (try (conv => whnf)))
      all_goals (try (first | with_reducible rfl | exact True.intro | rfl | exact id | exact fun h => h | exact fun _ => rfl))
      all_goals first | exact wrapS' (Nat.lt_trans hj' hp) | rfl
    · have hj' := lt_f' h
      rw [List.drop_eq_nil_of_le hj', idxA] at hl
      all_goals ((with_reducible refine leaf_i ?_); (conv => whnf))
      repeat' ((with_reducible refine And.intro ?_ ?_) <;> (try (conv => whnf)))
      all_goals (try (first | with_reducible rfl | exact True.intro | rfl | exact id | exact fun h => h | exact fun _ => rfl))
      all_goals first | exact hl | rfl

def hasA (s : El tS) (l : List (El tS)) : Bool := decide (idxA s 0 l ≥ 0)
def k_hasA : Sig := .arg (shR tS) fun l => .arg (shFP 35) fun s => .done { pre := l.length < 4611686018427387904, res := B (hasA s l) }
set_option maxHeartbeats 4000000 in
theorem c_hasA : FnOk Try.prog 36 k_hasA.con := by
  refine fnOkS mixed tys_ok (cs := [(42, k_idxA.con)]) ⟨c_idxA, trivial⟩ Try.func36 rfl (by kernel_rfl) Try.ntmps36 _ (h := ?_)
  intro g s
  refine ⟨rfl, fun hp => ?_⟩
  conv => whnf
  repeat' ((first
    | with_reducible refine ⟨fun h => h, ?_⟩
    | with_reducible refine ⟨pk1, ?_⟩
    | with_reducible refine ⟨pk2, ?_⟩
    | with_reducible refine ⟨pk3, ?_⟩
    | with_reducible refine ⟨pk4, ?_⟩
    | with_reducible refine ⟨pk5, ?_⟩
    | with_reducible refine ⟨pk6, ?_⟩
    | with_reducible refine ⟨trivial, ?_⟩
    | with_reducible refine ⟨fun _ => trivial, ?_⟩
    | with_reducible refine fork_t (by assumption) ?_
    | with_reducible refine fork_f (by assumption) ?_
    | refine fork_t rfl ?_
    | refine fork_f rfl ?_
    | with_reducible refine fork_i (fun h => ?_) (fun h => ?_)
    | with_reducible refine both_i ?_ ?_
    | ((with_reducible refine alike_i ?_); exact ⟨rfl, rfl, rfl⟩)
    | ((with_reducible refine fin_i ?_); (conv => whnf); refine ⟨rfl, ?_⟩)
    | refine ⟨of_decide_eq_true rfl, ?_⟩
    | refine ⟨fun _ => of_decide_eq_true rfl, ?_⟩
    | ((with_reducible refine ⟨?_, ?_⟩); (focus (intros; simp_all; done)))
    | ((with_reducible refine ⟨?_, ?_⟩); (focus (intros; omega)))) <;> (try (conv => whnf)))
  all_goals ((with_reducible refine leaf_i ?_); (conv => whnf))
  repeat' ((with_reducible refine And.intro ?_ ?_) <;> (try (conv => whnf)))
  all_goals (try (first | with_reducible rfl | exact True.intro | rfl | exact id | exact fun h => h | exact fun _ => rfl))
  all_goals first | rfl | trace_state
end Go.Proofs.Ythlkhjfilfdpiaa
