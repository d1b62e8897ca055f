/- Parts of the proof, joined: no conditions of their own. -/
import Derived.Test.YtbgcgokikekmoaaG05
/- Layer 9's functions: which inputs a node feeds. -/
namespace Go.Proofs.Ytbgcgokikekmoaa
set_option linter.unusedVariables false
set_option linter.unusedSimpArgs false
open Go Go.RowKit Go.Proofs.Ytbgcgokikekmoaa.Eng

def k_to : Sig := .arg (shR tN) fun g => .arg shI fun i => .done { pre := (toG g i).length ≤ 1000000000 ∧ g.length < 4611686018427387904 ∧ ∀ x : Nd, x ∈ g → (Nd.ins x).length < 4611686018427387904, res := .rl true tP (toG g i) }

set_option maxHeartbeats 4000000 in
theorem c_to : FnOk Try.prog 55 k_to.con := by
  refine fnOkS mixed tys_ok (cs := []) trivial Try.func55 rfl (by kernel_rfl) Try.ntmps55 _ (h := ?_)
  intro g i
  refine ⟨rfl, fun hp => ?_⟩
  obtain ⟨hp1, hp2, hp3⟩ := hp
  conv => whnf
  repeat' ((first
    | with_reducible refine ⟨fun h => h, ?_⟩
    | with_reducible refine ⟨pk1, ?_⟩
    | with_reducible refine ⟨pk2, ?_⟩
    | with_reducible refine ⟨pk3, ?_⟩
    | with_reducible refine ⟨pk4, ?_⟩
    | with_reducible refine ⟨pk5, ?_⟩
    | with_reducible refine ⟨pk6, ?_⟩
    | with_reducible refine ⟨trivial, ?_⟩
    | with_reducible refine ⟨fun _ => trivial, ?_⟩
    | with_reducible refine ⟨rfl, ?_⟩
    | with_reducible refine every_i (fun hd => ?_)
    | with_reducible refine fork_t (by assumption) ?_
    | with_reducible refine fork_f (by assumption) ?_
    | refine fork_t rfl ?_
    | refine fork_f rfl ?_
    | with_reducible refine fork_i (fun h => ?_) (fun h => ?_)
    | with_reducible refine both_i ?_ ?_
    | ((with_reducible refine alike_i ?_); exact ⟨rfl, rfl, rfl⟩)
    | ((with_reducible refine fin_i ?_); (conv => whnf); refine ⟨rfl, ?_⟩)
    | refine ⟨of_decide_eq_true rfl, ?_⟩
    | refine ⟨fun _ => of_decide_eq_true rfl, ?_⟩
    | ((with_reducible refine ⟨?_, ?_⟩); (focus (intros; simp_all; done)))
    | ((with_reducible refine ⟨?_, ?_⟩); (focus (intros; omega)))) <;> (try (conv => whnf)))
  refine looped (σ := Nat × List (El tP)) (fun x => [(12, I x.1), (5, .ow 0 2 x.2.length)]) (fun x => [.row true tP 69 x.2]) (fun x => x.1 ≤ g.length ∧ x.2 ++ toOut i x.1 (g.drop x.1) = toG g i) (fun x => g.length - x.1) (0, []) ⟨Nat.zero_le _, rfl⟩ ?_ ?_
  · conv => whnf
    refine ⟨rfl, leaf_i ?_⟩
    repeat' ((with_reducible refine And.intro ?_ ?_) <;> (try (conv => whnf)))
    all_goals (try (first | with_reducible rfl | exact True.intro | rfl | exact id | exact fun h => h | exact fun _ => rfl))
  · rintro ⟨j, l⟩ ⟨hj, hl⟩
    dsimp only at hj hl
    conv => whnf
    repeat' ((first
      | with_reducible refine ⟨fun h => h, ?_⟩
      | with_reducible refine ⟨pk1, ?_⟩
      | with_reducible refine ⟨pk2, ?_⟩
      | with_reducible refine ⟨pk3, ?_⟩
      | with_reducible refine ⟨pk4, ?_⟩
      | with_reducible refine ⟨pk5, ?_⟩
      | with_reducible refine ⟨pk6, ?_⟩
      | with_reducible refine ⟨trivial, ?_⟩
      | with_reducible refine ⟨fun _ => trivial, ?_⟩
      | with_reducible refine ⟨rfl, ?_⟩
      | with_reducible refine every_i (fun hd => ?_)
      | with_reducible refine fork_t (by assumption) ?_
      | with_reducible refine fork_f (by assumption) ?_
      | refine fork_t rfl ?_
      | refine fork_f rfl ?_
      | with_reducible refine fork_i (fun h => ?_) (fun h => ?_)
      | with_reducible refine both_i ?_ ?_
      | ((with_reducible refine alike_i ?_); exact ⟨rfl, rfl, rfl⟩)
      | ((with_reducible refine fin_i ?_); (conv => whnf); refine ⟨rfl, ?_⟩)
      | refine ⟨of_decide_eq_true rfl, ?_⟩
      | refine ⟨fun _ => of_decide_eq_true rfl, ?_⟩
      | ((with_reducible refine ⟨?_, ?_⟩); (focus (intros; simp_all; done)))
      | ((with_reducible refine ⟨?_, ?_⟩); (focus (intros; omega)))) <;> (try (conv => whnf)))
    · have hj' : j < g.length := by simpa using h
      have hm := getE_mem g hj'
      have hn := hp3 _ hm
      rw [drop_get g hj'] at hl
      refine looped (σ := Nat × List (El tP)) (fun x => [(20, I x.1), (5, .ow 0 2 x.2.length)]) (fun x => [.row true tP 69 x.2, .cells (ndC false (getE tN g j))]) (fun x => x.1 ≤ (Nd.ins (getE tN g j)).length ∧ x.2 ++ (toIn j i x.1 ((Nd.ins (getE tN g j)).drop x.1) ++ toOut i (j + 1) (g.drop (j + 1))) = toG g i) (fun x => (Nd.ins (getE tN g j)).length - x.1) (0, l) ⟨Nat.zero_le _, hl⟩ ?_ ?_
      · conv => whnf
        refine ⟨rfl, leaf_i ?_⟩
        repeat' ((with_reducible refine And.intro ?_ ?_) <;> (try (conv => whnf)))
        all_goals (try (first | with_reducible rfl | exact True.intro | rfl | exact id | exact fun h => h | exact fun _ => rfl))
      · rintro ⟨k, l⟩ ⟨hk, hl⟩
        dsimp only at hk hl
        conv => whnf
        repeat' ((first
          | with_reducible refine ⟨fun h => h, ?_⟩
          | with_reducible refine ⟨pk1, ?_⟩
          | with_reducible refine ⟨pk2, ?_⟩
          | with_reducible refine ⟨pk3, ?_⟩
          | with_reducible refine ⟨pk4, ?_⟩
          | with_reducible refine ⟨pk5, ?_⟩
          | with_reducible refine ⟨pk6, ?_⟩
          | with_reducible refine ⟨trivial, ?_⟩
          | with_reducible refine ⟨fun _ => trivial, ?_⟩
          | with_reducible refine ⟨rfl, ?_⟩
          | with_reducible refine every_i (fun hd => ?_)
          | with_reducible refine fork_t (by assumption) ?_
          | with_reducible refine fork_f (by assumption) ?_
          | refine fork_t rfl ?_
          | refine fork_f rfl ?_
          | with_reducible refine fork_i (fun h => ?_) (fun h => ?_)
          | with_reducible refine both_i ?_ ?_
          | ((with_reducible refine alike_i ?_); exact ⟨rfl, rfl, rfl⟩)
          | ((with_reducible refine fin_i ?_); (conv => whnf); refine ⟨rfl, ?_⟩)
          | refine ⟨of_decide_eq_true rfl, ?_⟩
          | refine ⟨fun _ => of_decide_eq_true rfl, ?_⟩
          | ((with_reducible refine ⟨?_, ?_⟩); (focus (intros; simp_all; done)))
          | ((with_reducible refine ⟨?_, ?_⟩); (focus (intros; omega)))) <;> (try (conv => whnf)))
        · rename_i hk'
          have hk' : k < (Nd.ins (getE tN g j)).length := of_decide_eq_true hk' |> Int.ofNat_lt.1
          have hx : (getE tI (Nd.ins (getE tN g j)) k).1 = i := eq_of_beq h
          rw [drop_get _ hk', toIn, if_pos hx] at hl
          refine ⟨?_, ?_⟩
          · have := congrArg List.length hl
            simp only [List.length_append, List.length_cons, List.length_nil] at this ⊢
            omega
          (conv => whnf)
          conv => whnf
          repeat' ((first
            | with_reducible refine ⟨fun h => h, ?_⟩
            | with_reducible refine ⟨pk1, ?_⟩
            | with_reducible refine ⟨pk2, ?_⟩
            | with_reducible refine ⟨pk3, ?_⟩
            | with_reducible refine ⟨pk4, ?_⟩
            | with_reducible refine ⟨pk5, ?_⟩
            | with_reducible refine ⟨pk6, ?_⟩
            | with_reducible refine ⟨trivial, ?_⟩
            | with_reducible refine ⟨fun _ => trivial, ?_⟩
            | with_reducible refine ⟨rfl, ?_⟩
            | with_reducible refine every_i (fun hd => ?_)
            | with_reducible refine fork_t (by assumption) ?_
            | with_reducible refine fork_f (by assumption) ?_
            | refine fork_t rfl ?_
            | refine fork_f rfl ?_
            | with_reducible refine fork_i (fun h => ?_) (fun h => ?_)
            | with_reducible refine both_i ?_ ?_
            | ((with_reducible refine alike_i ?_); exact ⟨rfl, rfl, rfl⟩)
            | ((with_reducible refine fin_i ?_); (conv => whnf); refine ⟨rfl, ?_⟩)
            | refine ⟨of_decide_eq_true rfl, ?_⟩
            | refine ⟨fun _ => of_decide_eq_true rfl, ?_⟩
            | ((with_reducible refine ⟨?_, ?_⟩); (focus (intros; simp_all; done)))
            | ((with_reducible refine ⟨?_, ?_⟩); (focus (intros; omega)))) <;> (try (conv => whnf)))
          refine next_i (k + 1, l ++ [((j : Int), (k : Int), ())]) ⟨hk', by simpa using hl⟩ (by dsimp only; omega) rfl rfl ?_
          conv => whnf
          refine ⟨rfl, leaf_i ?_⟩
          repeat' ((with_reducible refine And.intro ?_ ?_) <;> (try (conv => whnf)))
          all_goals (try (first | with_reducible rfl | exact True.intro | rfl | exact id | exact fun h => h | exact fun _ => rfl))
          all_goals (try (first | rfl | exact wrapS (by dsimp only; omega)))
        · rename_i hk'
          have hk' : k < (Nd.ins (getE tN g j)).length := of_decide_eq_true hk' |> Int.ofNat_lt.1
          have hx : ¬ (getE tI (Nd.ins (getE tN g j)) k).1 = i := ne_of_beq_false h
          rw [drop_get _ hk', toIn, if_neg hx] at hl
          refine next_i (k + 1, l) ⟨hk', by simpa using hl⟩ (by dsimp only; omega) rfl rfl ?_
          conv => whnf
          refine ⟨rfl, leaf_i ?_⟩
          repeat' ((with_reducible refine And.intro ?_ ?_) <;> (try (conv => whnf)))
          all_goals (try (first | with_reducible rfl | exact True.intro | rfl | exact id | exact fun h => h | exact fun _ => rfl))
          all_goals (try (first | rfl | exact wrapS (by dsimp only; omega)))
        · have hk' : (Nd.ins (getE tN g j)).length ≤ k := by have := of_decide_eq_false h; exact Nat.le_of_not_lt fun hh => this (Int.ofNat_lt.2 hh)
          rw [List.drop_eq_nil_of_le hk', toIn, List.nil_append] at hl
          refine next_i (j + 1, l) ⟨hj', hl⟩ (by dsimp only; omega) rfl rfl ?_
          conv => whnf
          refine ⟨rfl, leaf_i ?_⟩
          repeat' ((with_reducible refine And.intro ?_ ?_) <;> (try (conv => whnf)))
          all_goals (try (first | with_reducible rfl | exact True.intro | rfl | exact id | exact fun h => h | exact fun _ => rfl))
          all_goals (try (first | rfl | exact wrapS (by dsimp only; omega)))
    · have hj' : g.length ≤ j := by have := of_decide_eq_false h; exact Nat.le_of_not_lt fun hh => this (Int.ofNat_lt.2 hh)
      rw [List.drop_eq_nil_of_le hj', toOut, List.append_nil] at hl
      all_goals ((with_reducible refine leaf_i ?_); (conv => whnf))
      repeat' ((with_reducible refine And.intro ?_ ?_) <;> (try (conv => whnf)))
      all_goals (try (first | with_reducible rfl | exact True.intro | rfl | exact id | exact fun h => h | exact fun _ => rfl))
      all_goals exact hl
end Go.Proofs.Ytbgcgokikekmoaa

/- Layer 10: from which node one comes to which. -/
namespace Go.Proofs.Ytbgcgokikekmoaa
set_option linter.unusedVariables false
set_option linter.unusedSimpArgs false
set_option maxRecDepth 100000
open Go Go.RowKit Go.Proofs.Ytbgcgokikekmoaa.Eng

/-- A number's place, only read. -/
def rpI (x : El tI) : AV := .rp 1 (fun y => nthD (encC false tI x) y) 0
def gIx : AV → Option Int
  | .v (.int .i64 n) => some n
  | _ => none
theorem gIx_ok {v : AV} {n : Int} (h : gIx v = some n) : v = I n := by
  unfold gIx at h
  split at h
  · injection h with h; subst h; rfl
  · cases h
def gRpI : AV → Option (El tI)
  | .rp 1 e 0 => match gIx (e 0) with
    | some f => some (f, ())
    | _ => none
  | _ => none
theorem gRpI_ok {v : AV} {x : El tI} (h : gRpI v = some x) (c : Cx) (vs : List Value) (hs : sat v c vs) : sat (rpI x) c vs := by
  unfold gRpI at h
  split at h
  · rename_i e
    split at h
    · rename_i f h0
      injection h with h; subst h
      obtain ⟨bl, q, hv, hO, hb, hc⟩ := hs
      refine ⟨bl, q, hv, hO, hb, fun j hj => ?_⟩
      obtain ⟨y, hy, hsy⟩ := hc j hj
      refine ⟨y, hy, ?_⟩
      have : j = 0 := by omega
      subst this
      rw [gIx_ok h0] at hsy; exact hsy
    · cases h
  · cases h
def shRpI : Sh (El tI) := ⟨gRpI, rpI, fun _ _ h c vs hs => gRpI_ok h c vs hs⟩

def k_ways1 : Sig := .arg (shT tN) fun n => .arg shRpI fun s => .done { pre := True, res := B (stayB s.1 n) }
set_option maxHeartbeats 4000000 in
theorem c_ways1 : FnOk Try.prog 54 k_ways1.con := by
  refine fnOkS mixed tys_ok (cs := []) trivial Try.func54 rfl (by kernel_rfl) Try.ntmps54 _ (h := ?_)
  rintro n s
  refine ⟨rfl, fun _ => ?_⟩
  conv => whnf
  repeat' ((first
    | with_reducible refine ⟨fun h => h, ?_⟩
    | with_reducible refine ⟨pk1, ?_⟩
    | with_reducible refine ⟨pk2, ?_⟩
    | with_reducible refine ⟨pk3, ?_⟩
    | with_reducible refine ⟨pk4, ?_⟩
    | with_reducible refine ⟨pk5, ?_⟩
    | with_reducible refine ⟨pk6, ?_⟩
    | with_reducible refine ⟨trivial, ?_⟩
    | with_reducible refine ⟨fun _ => trivial, ?_⟩
    | with_reducible refine ⟨rfl, ?_⟩
    | with_reducible refine every_i (fun hd => ?_)
    | with_reducible refine fork_t (by assumption) ?_
    | with_reducible refine fork_f (by assumption) ?_
    | refine fork_t rfl ?_
    | refine fork_f rfl ?_
    | with_reducible refine fork_i (fun h => ?_) (fun h => ?_)
    | with_reducible refine both_i ?_ ?_
    | ((with_reducible refine alike_i ?_); exact ⟨rfl, rfl, rfl⟩)
    | ((with_reducible refine fin_i ?_); (conv => whnf); refine ⟨rfl, ?_⟩)
    | refine ⟨of_decide_eq_true rfl, ?_⟩
    | refine ⟨fun _ => of_decide_eq_true rfl, ?_⟩
    | ((with_reducible refine ⟨?_, ?_⟩); (focus (intros; simp_all; done)))
    | ((with_reducible refine ⟨?_, ?_⟩); (focus (intros; omega)))) <;> (try (conv => whnf)))
  all_goals ((with_reducible refine leaf_i ?_); (conv => whnf))
  repeat' ((with_reducible refine And.intro ?_ ?_) <;> (try (conv => whnf)))
  all_goals (try (first | with_reducible rfl | exact True.intro | rfl | exact id | exact fun h => h | exact fun _ => rfl))

abbrev tBBt : Ty := tBB
def k_ways : Sig := .arg (shR tN) fun g => .arg shI fun least => .done { pre := few g, res := .rl true tBB (waysG g least) }
set_option maxHeartbeats 4000000 in
theorem c_ways : FnOk Try.prog 45 k_ways.con := by
  refine fnOkS mixed tys_ok (cs := [(54, k_ways1.con), (55, k_to.con)]) ⟨c_ways1, c_to, trivial⟩ Try.func45 rfl (by kernel_rfl) Try.ntmps45 _ (h := ?_)
  rintro g least
  refine ⟨rfl, fun hp => ?_⟩
  have hp : few g := hp
  have hg := hp.1
  conv => whnf
  repeat' ((first
    | with_reducible refine ⟨fun h => h, ?_⟩
    | with_reducible refine ⟨pk1, ?_⟩
    | with_reducible refine ⟨pk2, ?_⟩
    | with_reducible refine ⟨pk3, ?_⟩
    | with_reducible refine ⟨pk4, ?_⟩
    | with_reducible refine ⟨pk5, ?_⟩
    | with_reducible refine ⟨pk6, ?_⟩
    | with_reducible refine ⟨trivial, ?_⟩
    | with_reducible refine ⟨fun _ => trivial, ?_⟩
    | with_reducible refine ⟨rfl, ?_⟩
    | with_reducible refine every_i (fun hd => ?_)
    | with_reducible refine fork_t (by assumption) ?_
    | with_reducible refine fork_f (by assumption) ?_
    | refine fork_t rfl ?_
    | refine fork_f rfl ?_
    | with_reducible refine fork_i (fun h => ?_) (fun h => ?_)
    | with_reducible refine both_i ?_ ?_
    | ((with_reducible refine alike_i ?_); exact ⟨rfl, rfl, rfl⟩)
    | ((with_reducible refine fin_i ?_); (conv => whnf); refine ⟨rfl, ?_⟩)
    | refine ⟨of_decide_eq_true rfl, ?_⟩
    | refine ⟨fun _ => of_decide_eq_true rfl, ?_⟩
    | ((with_reducible refine ⟨?_, ?_⟩); (focus (intros; simp_all; done)))
    | ((with_reducible refine ⟨?_, ?_⟩); (focus (intros; omega)))) <;> (try (conv => whnf)))
  refine only [18, 6, 5, 4, 3, 0, 1] ?_
  (conv => whnf)
  refine looped (σ := Nat × (Nat → Nat → Value) × Mx) (fun x => [(19, I x.1)]) (fun x => [.cells (.cons (I least) .nil), .mt true x.2.1 tBB [some 4] 37 x.2.2]) (fun x => x.1 ≤ g.length ∧ x.2.2 = wA g least x.1) (fun x => g.length - x.1) (0, nilH, wA g least 0) ⟨Nat.zero_le _, rfl⟩ ?_ ?_
  · conv => whnf
    refine ⟨rfl, leaf_i ?_⟩
    repeat' ((with_reducible refine And.intro ?_ ?_) <;> (try (conv => whnf)))
    all_goals (try (first | with_reducible rfl | exact True.intro | rfl | exact id | exact fun h => h | exact fun _ => rfl))
  · rintro ⟨i, H, m⟩ ⟨hi, hm⟩
    dsimp only at hi hm ⊢
    conv => whnf
    repeat' ((first
      | with_reducible refine ⟨fun h => h, ?_⟩
      | with_reducible refine ⟨pk1, ?_⟩
      | with_reducible refine ⟨pk2, ?_⟩
      | with_reducible refine ⟨pk3, ?_⟩
      | with_reducible refine ⟨pk4, ?_⟩
      | with_reducible refine ⟨pk5, ?_⟩
      | with_reducible refine ⟨pk6, ?_⟩
      | with_reducible refine ⟨trivial, ?_⟩
      | with_reducible refine ⟨fun _ => trivial, ?_⟩
      | with_reducible refine ⟨rfl, ?_⟩
      | with_reducible refine every_i (fun hd => ?_)
      | with_reducible refine fork_t (by assumption) ?_
      | with_reducible refine fork_f (by assumption) ?_
      | refine fork_t rfl ?_
      | refine fork_f rfl ?_
      | with_reducible refine fork_i (fun h => ?_) (fun h => ?_)
      | with_reducible refine both_i ?_ ?_
      | ((with_reducible refine alike_i ?_); exact ⟨rfl, rfl, rfl⟩)
      | ((with_reducible refine fin_i ?_); (conv => whnf); refine ⟨rfl, ?_⟩)
      | refine ⟨of_decide_eq_true rfl, ?_⟩
      | refine ⟨fun _ => of_decide_eq_true rfl, ?_⟩
      | ((with_reducible refine ⟨?_, ?_⟩); (focus (intros; simp_all; done)))
      | ((with_reducible refine ⟨?_, ?_⟩); (focus (intros; omega)))) <;> (try (conv => whnf)))
    have ht := few_to hp (i : Int)
    refine ⟨⟨by omega, by omega, fun x hx => by have := hp.2 x hx; omega⟩, ?_⟩
    (conv => whnf)
    conv => whnf
    repeat' ((first
      | with_reducible refine ⟨fun h => h, ?_⟩
      | with_reducible refine ⟨pk1, ?_⟩
      | with_reducible refine ⟨pk2, ?_⟩
      | with_reducible refine ⟨pk3, ?_⟩
      | with_reducible refine ⟨pk4, ?_⟩
      | with_reducible refine ⟨pk5, ?_⟩
      | with_reducible refine ⟨pk6, ?_⟩
      | with_reducible refine ⟨trivial, ?_⟩
      | with_reducible refine ⟨fun _ => trivial, ?_⟩
      | with_reducible refine ⟨rfl, ?_⟩
      | with_reducible refine every_i (fun hd => ?_)
      | with_reducible refine fork_t (by assumption) ?_
      | with_reducible refine fork_f (by assumption) ?_
      | refine fork_t rfl ?_
      | refine fork_f rfl ?_
      | with_reducible refine fork_i (fun h => ?_) (fun h => ?_)
      | with_reducible refine both_i ?_ ?_
      | ((with_reducible refine alike_i ?_); exact ⟨rfl, rfl, rfl⟩)
      | ((with_reducible refine fin_i ?_); (conv => whnf); refine ⟨rfl, ?_⟩)
      | refine ⟨of_decide_eq_true rfl, ?_⟩
      | refine ⟨fun _ => of_decide_eq_true rfl, ?_⟩
      | ((with_reducible refine ⟨?_, ?_⟩); (focus (intros; simp_all; done)))
      | ((with_reducible refine ⟨?_, ?_⟩); (focus (intros; omega)))) <;> (try (conv => whnf)))
    · have hi' := lt_t h
      subst hm
      have hs := sqU_row (sqU_wA (least := least) i hi) hi'
      refine only [31, 30, 19, 7, 18, 6, 5, 4, 3, 0, 1] ?_
      (conv => whnf)
      refine looped (σ := Nat × Mx) (fun x => [(32, I x.1)]) (fun x => [.cells (.cons (I least) .nil), .mt true (updH H i 0 hd) tBB [some 4] 37 x.2]) (fun x => x.1 ≤ (toG g i).length ∧ x.2 = pK g least i (toG g i) ((wA g least i).set i (falseR g.length, ())) x.1) (fun x => (toG g i).length - x.1) (0, (wA g least i).set i (falseR g.length, ())) ⟨Nat.zero_le _, rfl⟩ ?_ ?_
      · conv => whnf
        refine ⟨rfl, leaf_i ?_⟩
        repeat' ((with_reducible refine And.intro ?_ ?_) <;> (try (conv => whnf)))
        all_goals (try (first | with_reducible rfl | exact True.intro | rfl | exact id | exact fun h => h | exact fun _ => rfl))
      · rintro ⟨k, m⟩ ⟨hk, hm⟩
        dsimp only at hk hm ⊢
        have hs' : sqU g.length (i + 1) m := by rw [hm]; exact sqU_pK hs k
        have hpb : decide ((k : Int) < ((toG g i).length : Int)) = true → 0 ≤ (getE tP (toG g i) k).1 ∧ (getE tP (toG g i) k).1 < (g.length : Int) := fun h => by
          obtain ⟨j, e, hj⟩ := toG_at (lt_t h)
          rw [e]; omega
        have hpc : decide ((k : Int) < ((toG g i).length : Int)) = true → 0 ≤ (getE tP (toG g i) k).1 ∧ (getE tP (toG g i) k).1 < ((rowM m i).length : Int) := fun h => by
          rw [hs'.2 i (by omega)]; exact hpb h
        conv => whnf
        repeat' ((first
          | with_reducible refine ⟨fun h => h, ?_⟩
          | with_reducible refine ⟨pk1, ?_⟩
          | with_reducible refine ⟨pk2, ?_⟩
          | with_reducible refine ⟨pk3, ?_⟩
          | with_reducible refine ⟨pk4, ?_⟩
          | with_reducible refine ⟨pk5, ?_⟩
          | with_reducible refine ⟨pk6, ?_⟩
          | with_reducible refine ⟨trivial, ?_⟩
          | with_reducible refine ⟨fun _ => trivial, ?_⟩
          | with_reducible refine ⟨rfl, ?_⟩
          | with_reducible refine every_i (fun hd => ?_)
          | with_reducible refine fork_t (by assumption) ?_
          | with_reducible refine fork_f (by assumption) ?_
          | refine fork_t rfl ?_
          | refine fork_f rfl ?_
          | with_reducible refine fork_i (fun h => ?_) (fun h => ?_)
          | with_reducible refine both_i ?_ ?_
          | ((with_reducible refine alike_i ?_); exact ⟨rfl, rfl, rfl⟩)
          | ((with_reducible refine fin_i ?_); (conv => whnf); refine ⟨rfl, ?_⟩)
          | refine ⟨fun _ => hpb (by assumption), ?_⟩
          | refine ⟨hpc (by assumption), ?_⟩
          | refine ⟨of_decide_eq_true rfl, ?_⟩
          | refine ⟨fun _ => of_decide_eq_true rfl, ?_⟩
          | ((with_reducible refine ⟨?_, ?_⟩); (focus (intros; simp_all; done)))
          | ((with_reducible refine ⟨?_, ?_⟩); (focus (intros; omega)))) <;> (try (conv => whnf)))
        · refine next_i (k + 1, pB g least i (getE tP (toG g i) k) m) ⟨lt_t h, by rw [hm]; rfl⟩ (by have := lt_t h; dsimp only; omega) rfl rfl ?_
          conv => whnf
          refine ⟨rfl, leaf_i ?_⟩
          repeat' ((with_reducible refine And.intro ?_ ?_) <;> (try (conv => whnf)))
          all_goals (try (first | with_reducible rfl | exact True.intro | rfl | exact id | exact fun h => h | exact fun _ => rfl))
          all_goals (try (first | rfl | exact wrapS (by have := lt_t h; omega)))
        · refine next_i (i + 1, updH H i 0 hd, m) ⟨hi', by rw [hm, show k = (toG g i).length from Nat.le_antisymm hk (lt_f h)]; rfl⟩ (by dsimp only; omega) rfl rfl ?_
          conv => whnf
          refine ⟨rfl, leaf_i ?_⟩
          repeat' ((with_reducible refine And.intro ?_ ?_) <;> (try (conv => whnf)))
          all_goals (try (first | with_reducible rfl | exact True.intro | rfl | exact id | exact fun h => h | exact fun _ => rfl))
          all_goals (try (first | rfl | exact wrapS (by omega)))
    · have hi' := lt_f h
      have hs := sqU_wA (g := g) (least := least) g.length (Nat.le_refl _)
      rw [show i = g.length from Nat.le_antisymm hi hi'] at hm
      rw [← hm] at hs
      refine only [61, 6, 4, 3, 0] ?_
      (conv => whnf)
      refine looped (σ := Nat × Mx) (fun x => [(62, I x.1)]) (fun x => [.cells (.cons (I least) .nil), .mt true H tBB [some 4] 37 x.2]) (fun x => x.1 ≤ g.length ∧ x.2 = stK m g.length x.1) (fun x => g.length - x.1) (0, m) ⟨Nat.zero_le _, rfl⟩ ?_ ?_
      · conv => whnf
        refine ⟨rfl, leaf_i ?_⟩
        repeat' ((with_reducible refine And.intro ?_ ?_) <;> (try (conv => whnf)))
        all_goals (try (first | with_reducible rfl | exact True.intro | rfl | exact id | exact fun h => h | exact fun _ => rfl))
      · rintro ⟨k, m'⟩ ⟨hk, hm'⟩
        dsimp only at hk hm' ⊢
        have hsk : sqU g.length g.length m' := by rw [hm']; exact sqU_stK hs k
        conv => whnf
        repeat' ((first
          | with_reducible refine ⟨fun h => h, ?_⟩
          | with_reducible refine ⟨pk1, ?_⟩
          | with_reducible refine ⟨pk2, ?_⟩
          | with_reducible refine ⟨pk3, ?_⟩
          | with_reducible refine ⟨pk4, ?_⟩
          | with_reducible refine ⟨pk5, ?_⟩
          | with_reducible refine ⟨pk6, ?_⟩
          | with_reducible refine ⟨trivial, ?_⟩
          | with_reducible refine ⟨fun _ => trivial, ?_⟩
          | with_reducible refine ⟨rfl, ?_⟩
          | with_reducible refine every_i (fun hd => ?_)
          | with_reducible refine fork_t (by assumption) ?_
          | with_reducible refine fork_f (by assumption) ?_
          | refine fork_t rfl ?_
          | refine fork_f rfl ?_
          | with_reducible refine fork_i (fun h => ?_) (fun h => ?_)
          | with_reducible refine both_i ?_ ?_
          | ((with_reducible refine alike_i ?_); exact ⟨rfl, rfl, rfl⟩)
          | ((with_reducible refine fin_i ?_); (conv => whnf); refine ⟨rfl, ?_⟩)
          | refine ⟨of_decide_eq_true rfl, ?_⟩
          | refine ⟨fun _ => of_decide_eq_true rfl, ?_⟩
          | ((with_reducible refine ⟨?_, ?_⟩); (focus (intros; simp_all; done)))
          | ((with_reducible refine ⟨?_, ?_⟩); (focus (intros; omega)))) <;> (try (conv => whnf)))
        · have hk' := lt_t h
          refine only [67, 66, 62, 10, 61, 6, 4, 3, 0] ?_
          (conv => whnf)
          refine looped (σ := Nat × Mx) (fun x => [(67, I x.1)]) (fun x => [.cells (.cons (I least) .nil), .mt true H tBB [some 4] 37 x.2]) (fun x => x.1 ≤ g.length ∧ x.2 = stI m' g.length k x.1) (fun x => g.length - x.1) (0, m') ⟨Nat.zero_le _, rfl⟩ ?_ ?_
          · conv => whnf
            refine ⟨rfl, leaf_i ?_⟩
            repeat' ((with_reducible refine And.intro ?_ ?_) <;> (try (conv => whnf)))
            all_goals (try (first | with_reducible rfl | exact True.intro | rfl | exact id | exact fun h => h | exact fun _ => rfl))
          · rintro ⟨ii, m2⟩ ⟨hii, hm2⟩
            dsimp only at hii hm2 ⊢
            have hsi : sqU g.length g.length m2 := by rw [hm2]; exact sqU_stI hsk k ii
            conv => whnf
            repeat' ((first
              | with_reducible refine ⟨fun h => h, ?_⟩
              | with_reducible refine ⟨pk1, ?_⟩
              | with_reducible refine ⟨pk2, ?_⟩
              | with_reducible refine ⟨pk3, ?_⟩
              | with_reducible refine ⟨pk4, ?_⟩
              | with_reducible refine ⟨pk5, ?_⟩
              | with_reducible refine ⟨pk6, ?_⟩
              | with_reducible refine ⟨trivial, ?_⟩
              | with_reducible refine ⟨fun _ => trivial, ?_⟩
              | with_reducible refine ⟨rfl, ?_⟩
              | with_reducible refine every_i (fun hd => ?_)
              | with_reducible refine fork_t (by assumption) ?_
              | with_reducible refine fork_f (by assumption) ?_
              | refine fork_t rfl ?_
              | refine fork_f rfl ?_
              | with_reducible refine fork_i (fun h => ?_) (fun h => ?_)
              | with_reducible refine both_i ?_ ?_
              | ((with_reducible refine alike_i ?_); exact ⟨rfl, rfl, rfl⟩)
              | ((with_reducible refine fin_i ?_); (conv => whnf); refine ⟨rfl, ?_⟩)
              | refine ⟨of_decide_eq_true rfl, ?_⟩
              | refine ⟨fun _ => of_decide_eq_true rfl, ?_⟩
              | ((with_reducible refine ⟨?_, ?_⟩); (focus (intros; simp_all; done)))
              | ((with_reducible refine ⟨?_, ?_⟩); (focus (intros; omega)))) <;> (try (conv => whnf)))
            · have hii' := lt_t h
              refine only [72, 71, 67, 66, 62, 11, 10, 61, 6, 4, 3, 0] ?_
              (conv => whnf)
              refine looped (σ := Nat × Mx) (fun x => [(72, I x.1)]) (fun x => [.cells (.cons (I least) .nil), .mt true H tBB [some 4] 37 x.2]) (fun x => x.1 ≤ g.length ∧ x.2 = stJ m2 k ii x.1) (fun x => g.length - x.1) (0, m2) ⟨Nat.zero_le _, rfl⟩ ?_ ?_
              · conv => whnf
                refine ⟨rfl, leaf_i ?_⟩
                repeat' ((with_reducible refine And.intro ?_ ?_) <;> (try (conv => whnf)))
                all_goals (try (first | with_reducible rfl | exact True.intro | rfl | exact id | exact fun h => h | exact fun _ => rfl))
              · rintro ⟨j, m3⟩ ⟨hj, hm3⟩
                dsimp only at hj hm3 ⊢
                have hsj : sqU g.length g.length m3 := by rw [hm3]; exact sqU_stJ hsi k ii j
                have q1 : decide ((j : Int) < (g.length : Int)) = true → 0 ≤ (j : Int) ∧ (j : Int) < ((rowM m3 ii).length : Int) := fun h => by rw [hsj.2 ii hii']; have := lt_t h; omega
                have q2 : decide ((j : Int) < (g.length : Int)) = true → 0 ≤ (j : Int) ∧ (j : Int) < ((rowM m3 k).length : Int) := fun h => by rw [hsj.2 k hk']; have := lt_t h; omega
                have q3 : 0 ≤ (k : Int) ∧ (k : Int) < ((rowM m3 ii).length : Int) := by rw [hsj.2 ii hii']; omega
                conv => whnf
                repeat' ((first
                  | with_reducible refine ⟨fun h => h, ?_⟩
                  | with_reducible refine ⟨pk1, ?_⟩
                  | with_reducible refine ⟨pk2, ?_⟩
                  | with_reducible refine ⟨pk3, ?_⟩
                  | with_reducible refine ⟨pk4, ?_⟩
                  | with_reducible refine ⟨pk5, ?_⟩
                  | with_reducible refine ⟨pk6, ?_⟩
                  | with_reducible refine ⟨trivial, ?_⟩
                  | with_reducible refine ⟨fun _ => trivial, ?_⟩
                  | with_reducible refine ⟨rfl, ?_⟩
                  | with_reducible refine every_i (fun hd => ?_)
                  | with_reducible refine fork_t (by assumption) ?_
                  | with_reducible refine fork_f (by assumption) ?_
                  | refine fork_t rfl ?_
                  | refine fork_f rfl ?_
                  | with_reducible refine fork_i (fun h => ?_) (fun h => ?_)
                  | with_reducible refine both_i ?_ ?_
                  | ((with_reducible refine alike_i ?_); exact ⟨rfl, rfl, rfl⟩)
                  | ((with_reducible refine fin_i ?_); (conv => whnf); refine ⟨rfl, ?_⟩)
                  | refine ⟨q1 (by assumption), ?_⟩
                  | refine ⟨fun _ => q1 (by assumption), ?_⟩
                  | refine ⟨fun _ => q2 (by assumption), ?_⟩
                  | refine ⟨fun _ => q3, ?_⟩
                  | refine ⟨of_decide_eq_true rfl, ?_⟩
                  | refine ⟨fun _ => of_decide_eq_true rfl, ?_⟩
                  | ((with_reducible refine ⟨?_, ?_⟩); (focus (intros; simp_all; done)))
                  | ((with_reducible refine ⟨?_, ?_⟩); (focus (intros; omega)))) <;> (try (conv => whnf)))
                · have hj' := lt_t h
                  refine next_i (j + 1, stJ m2 k ii (j + 1)) ⟨hj', rfl⟩ (by dsimp only; omega) rfl rfl ?_
                  conv => whnf
                  refine ⟨rfl, leaf_i ?_⟩
                  repeat' ((with_reducible refine And.intro ?_ ?_) <;> (try (conv => whnf)))
                  all_goals (try (first | with_reducible rfl | exact True.intro | rfl | exact id | exact fun h => h | exact fun _ => rfl))
                  all_goals (try (first | rfl | exact wrapS (by omega)))
                  all_goals (rw [hm3]; rfl)
                · refine next_i (ii + 1, m3) ⟨hii', by rw [hm3, show j = g.length from Nat.le_antisymm hj (lt_f h), hm2]; rfl⟩ (by dsimp only; omega) rfl rfl ?_
                  conv => whnf
                  refine ⟨rfl, leaf_i ?_⟩
                  repeat' ((with_reducible refine And.intro ?_ ?_) <;> (try (conv => whnf)))
                  all_goals (try (first | with_reducible rfl | exact True.intro | rfl | exact id | exact fun h => h | exact fun _ => rfl))
                  all_goals (try (first | rfl | exact wrapS (by omega)))
            · refine next_i (k + 1, m2) ⟨hk', by rw [hm2, show ii = g.length from Nat.le_antisymm hii (lt_f h), hm']; rfl⟩ (by dsimp only; omega) rfl rfl ?_
              conv => whnf
              refine ⟨rfl, leaf_i ?_⟩
              repeat' ((with_reducible refine And.intro ?_ ?_) <;> (try (conv => whnf)))
              all_goals (try (first | with_reducible rfl | exact True.intro | rfl | exact id | exact fun h => h | exact fun _ => rfl))
              all_goals (try (first | rfl | exact wrapS (by omega)))
        · have hk' := lt_f h
          all_goals ((with_reducible refine leaf_i ?_); (conv => whnf))
          repeat' ((with_reducible refine And.intro ?_ ?_) <;> (try (conv => whnf)))
          all_goals (try (first | with_reducible rfl | exact True.intro | rfl | exact id | exact fun h => h | exact fun _ => rfl))
          all_goals (rw [hm', show k = g.length from Nat.le_antisymm hk hk', hm]; rfl)
end Go.Proofs.Ytbgcgokikekmoaa
