/- Layer 9's functions: bytes as a graph. -/
import Derived.Test.YtjikhbdpkddbgaaC09B
import Derived.Test.YtjikhbdpkddbgaaP09G
namespace Go.Proofs.Ytjikhbdpkddbgaa
set_option linter.unusedVariables false
set_option linter.unusedSimpArgs false
open Go Go.RowKit Go.Proofs.Ytjikhbdpkddbgaa.Eng

/-- A cell that holds a slice that is only read. -/
def gRx (t : Ty) : AV → Option (List (El t))
  | .rl false t' l => castK t' t l none some
  | _ => none
theorem gRx_ok {t : Ty} {v : AV} {l : List (El t)} (h : gRx t v = some l) : v = .rl false t l := by
  unfold gRx at h
  split at h
  · rename_i t' l'
    revert h
    refine castK_ok (P := fun o : Option (List (El t)) => o = some l → _) (fun h => by cases h) fun e h => ?_
    subst e
    have h' : l' = l := by simpa using h
    rw [h']
  · cases h
def shCR (t : Ty) : ShO (List (El t)) := shC (gRx t) (fun l => .rl false t l) fun _ _ h => gRx_ok h
def shCB : ShO Bool := shC gB (fun b => .v (.bool b)) fun _ _ h => gB_ok h

def k_take : Sig := .arg shI fun w => .arg (shPtr 0 0) fun _ => .arg (shPtr 1 0) fun _ => .obj shCB fun ok => .obj (shCR tU) fun b => .done { pre := 0 ≤ w ∧ w ≤ 8 ∧ b.length < 4611686018427387904, res := I (takeX ok b w), lent := [.cells (.cons (B (takeOk ok b w)) .nil), .cells (.cons (.rl false tU (takeB ok b w)) .nil)] }

set_option maxRecDepth 100000 in
set_option maxHeartbeats 4000000 in
theorem c_take : FnOk Try.prog 29 k_take.con := by
  refine fnOkS mixed tys_ok (cs := []) trivial Try.func29 rfl (by kernel_rfl) Try.ntmps29 _ (h := ?_)
  intro w _ _ ok b
  refine ⟨rfl, fun hp => ?_⟩
  obtain ⟨hp1, hp2, hp3⟩ := hp
  conv => whnf
  repeat' ((first
    | with_reducible refine ⟨fun h => h, ?_⟩
    | with_reducible refine ⟨pk1, ?_⟩
    | with_reducible refine ⟨pk2, ?_⟩
    | with_reducible refine ⟨pk3, ?_⟩
    | with_reducible refine ⟨pk4, ?_⟩
    | with_reducible refine ⟨pk5, ?_⟩
    | with_reducible refine ⟨pk6, ?_⟩
    | with_reducible refine ⟨trivial, ?_⟩
    | with_reducible refine ⟨fun _ => trivial, ?_⟩
    | with_reducible refine fork_t (by assumption) ?_
    | with_reducible refine fork_f (by assumption) ?_
    | refine fork_t rfl ?_
    | refine fork_f rfl ?_
    | with_reducible refine fork_i (fun h => ?_) (fun h => ?_)
    | with_reducible refine both_i ?_ ?_
    | ((with_reducible refine alike_i ?_); exact ⟨rfl, rfl, rfl⟩)
    | ((with_reducible refine fin_i ?_); (conv => whnf); refine ⟨rfl, ?_⟩)
    | refine ⟨of_decide_eq_true rfl, ?_⟩
    | refine ⟨fun _ => of_decide_eq_true rfl, ?_⟩
    | ((with_reducible refine ⟨?_, ?_⟩); (focus (intros; simp_all; done)))
    | ((with_reducible refine ⟨?_, ?_⟩); (focus (intros; omega)))) <;> (try (conv => whnf)))
  · have hok : takeOk ok b w = false := by
      have h : (!takeOk ok b w) = true := h
      simpa using h
    all_goals ((with_reducible refine leaf_i ?_); (conv => whnf))
    repeat' ((with_reducible refine And.intro ?_ ?_) <;> (try (conv => whnf)))
    all_goals (try (first | with_reducible rfl | exact True.intro | rfl | exact id | exact fun h => h | exact fun _ => rfl))
    all_goals (first | rfl | (simp only [takeX, takeB, hok]; done) | (simp only [takeX, takeB, hok]; rfl) | trace_state)
  · have hok : takeOk ok b w = true := by
      have h : (!takeOk ok b w) = false := h
      simpa using h
    refine looped (σ := Nat × Int) (fun x => [(21, I x.1), (5, I x.2)]) (fun _ => [.cells (.cons (B (takeOk ok b w)) .nil), .cells (.cons (.rl false tU b) .nil)]) (fun x => x.1 ≤ (b.take w.toNat).length ∧ numB x.2 ((b.take w.toNat).drop x.1) = numB 0 (b.take w.toNat)) (fun x => (b.take w.toNat).length - x.1) (0, 0) ⟨Nat.zero_le _, rfl⟩ ?_ ?_
    · conv => whnf
      refine ⟨rfl, leaf_i ?_⟩
      repeat' ((with_reducible refine And.intro ?_ ?_) <;> (try (conv => whnf)))
      all_goals (try (first | with_reducible rfl | exact True.intro | rfl | exact id | exact fun h => h | exact fun _ => rfl))
    · rintro ⟨j, x⟩ ⟨hj, hl⟩
      dsimp only at hj hl
      conv => whnf
      repeat' ((first
        | with_reducible refine ⟨fun h => h, ?_⟩
        | with_reducible refine ⟨pk1, ?_⟩
        | with_reducible refine ⟨pk2, ?_⟩
        | with_reducible refine ⟨pk3, ?_⟩
        | with_reducible refine ⟨pk4, ?_⟩
        | with_reducible refine ⟨pk5, ?_⟩
        | with_reducible refine ⟨pk6, ?_⟩
        | with_reducible refine ⟨trivial, ?_⟩
        | with_reducible refine ⟨fun _ => trivial, ?_⟩
        | with_reducible refine fork_t (by assumption) ?_
        | with_reducible refine fork_f (by assumption) ?_
        | refine fork_t rfl ?_
        | refine fork_f rfl ?_
        | with_reducible refine fork_i (fun h => ?_) (fun h => ?_)
        | with_reducible refine both_i ?_ ?_
        | ((with_reducible refine alike_i ?_); exact ⟨rfl, rfl, rfl⟩)
        | ((with_reducible refine fin_i ?_); (conv => whnf); refine ⟨rfl, ?_⟩)
        | refine ⟨of_decide_eq_true rfl, ?_⟩
        | refine ⟨fun _ => of_decide_eq_true rfl, ?_⟩
        | ((with_reducible refine ⟨?_, ?_⟩); (focus (intros; simp_all; done)))
        | ((with_reducible refine ⟨?_, ?_⟩); (focus (intros; omega)))) <;> (try (conv => whnf)))
      · have hj' : j < (b.take w.toNat).length := lt_t h
        rw [drop_get _ hj', numB] at hl
        refine next_i (j + 1, stepB x (getE tU (b.take w.toNat) j).1) ⟨hj', hl⟩ (by dsimp only; omega) rfl rfl ?_
        have hw : (b.take w.toNat).length ≤ b.length := List.length_take_le' _ _
        conv => whnf
        refine ⟨rfl, leaf_i ?_⟩
        repeat' ((with_reducible refine And.intro ?_ ?_) <;> (try (conv => whnf)))
        all_goals (try (first | with_reducible rfl | exact True.intro | rfl | exact id | exact fun h => h | exact fun _ => rfl))
        all_goals (exact wrapS (by dsimp only; omega))
      · have hj' : (b.take w.toNat).length ≤ j := lt_f h
        rw [List.drop_eq_nil_of_le hj', numB] at hl
        all_goals ((with_reducible refine leaf_i ?_); (conv => whnf))
        repeat' ((with_reducible refine And.intro ?_ ?_) <;> (try (conv => whnf)))
        all_goals (try (first | with_reducible rfl | exact True.intro | rfl | exact id | exact fun h => h | exact fun _ => rfl))
        all_goals (simp only [takeX, takeB, hok, hl, cond_true])

end Go.Proofs.Ytjikhbdpkddbgaa
