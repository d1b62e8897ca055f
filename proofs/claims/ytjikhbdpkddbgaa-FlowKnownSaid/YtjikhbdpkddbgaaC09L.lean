/- Layer 9's statements: FlowPut, FlowSame, FlowApart. -/
import Derived.Test.YtjikhbdpkddbgaaC09K
import Derived.Test.YtjikhbdpkddbgaaC09I
namespace Go.Proofs.Ytjikhbdpkddbgaa
set_option linter.unusedVariables false
set_option linter.unusedSimpArgs false
open Go Go.RowKit Go.Proofs.Ytjikhbdpkddbgaa.Eng

def csL : List (FuncId × Con) := [(14, k_put.con), (21, k_same.con), (16, k_sameB.con), (11, k_ins.con), (13, k_own.con), (15, k_rput.con), (17, k_rsame.con), (12, k_works.con)]
theorem csL_ok : AllFn Try.prog csL := ⟨c_put, c_same, c_sameB, c_ins, c_own, c_rput, c_rsame, c_works, trivial⟩
theorem fit_ins {g : List Nd} {top : Int} (h : insG g top = true) (h' : top ≤ 1000) : fitG g ∧ g.length ≤ 1000 ∧ ∀ x : Nd, x ∈ g → (Nd.ins x).length ≤ 1000 := by
  obtain ⟨h1, h2⟩ := insG_spec h
  refine ⟨⟨by omega, fun x hx => ?_⟩, by omega, fun x hx => ?_⟩ <;> have := h2 x hx <;> omega

def k_lput : Sig := .arg (shR tN) fun g => .done { pre := True, res := B true }
set_option maxRecDepth 100000 in
set_option maxHeartbeats 8000000 in
theorem c_lput : FnOk Try.prog 3 k_lput.con := by
  refine fnOkS mixed tys_ok (cs := csL) csL_ok Try.func3 rfl (by kernel_rfl) Try.ntmps3 _ (h := ?_)
  intro g
  refine ⟨rfl, fun _ => ?_⟩
  conv => whnf
  repeat' ((first
    | with_reducible refine ⟨fun h => h, ?_⟩
    | with_reducible refine ⟨pk1, ?_⟩
    | with_reducible refine ⟨pk2, ?_⟩
    | with_reducible refine ⟨pk3, ?_⟩
    | with_reducible refine ⟨pk4, ?_⟩
    | with_reducible refine ⟨pk5, ?_⟩
    | with_reducible refine ⟨pk6, ?_⟩
    | with_reducible refine ⟨trivial, ?_⟩
    | with_reducible refine ⟨fun _ => trivial, ?_⟩
    | with_reducible refine fork_t (by assumption) ?_
    | with_reducible refine fork_f (by assumption) ?_
    | refine fork_t rfl ?_
    | refine fork_f rfl ?_
    | with_reducible refine fork_i (fun h => ?_) (fun h => ?_)
    | with_reducible refine both_i ?_ ?_
    | ((with_reducible refine alike_i ?_); exact ⟨rfl, rfl, rfl⟩)
    | ((with_reducible refine fin_i ?_); (conv => whnf); refine ⟨rfl, ?_⟩)
    | refine ⟨of_decide_eq_true rfl, ?_⟩
    | refine ⟨fun _ => of_decide_eq_true rfl, ?_⟩
    | ((with_reducible refine ⟨?_, ?_⟩); (focus (intros; simp_all; done)))
    | ((with_reducible refine ⟨?_, ?_⟩); (focus (intros; omega)))) <;> (try (conv => whnf)))
  · all_goals ((with_reducible refine leaf_i ?_); (conv => whnf))
    repeat' ((with_reducible refine And.intro ?_ ?_) <;> (try (conv => whnf)))
    all_goals (try (first | with_reducible rfl | exact True.intro | rfl | exact id | exact fun h => h | exact fun _ => rfl))
  · obtain ⟨hf, hl, hx⟩ := fit_ins (not_f h) (by decide)
    refine ⟨⟨by omega, fun x hh => Nat.le_trans (hx x hh) (by decide)⟩, ?_⟩
    (conv => whnf)
    refine ⟨hf, ?_⟩
    (conv => whnf)
    refine ⟨hf, ?_⟩
    (conv => whnf)
    conv => whnf
    repeat' ((first
      | with_reducible refine ⟨fun h => h, ?_⟩
      | with_reducible refine ⟨pk1, ?_⟩
      | with_reducible refine ⟨pk2, ?_⟩
      | with_reducible refine ⟨pk3, ?_⟩
      | with_reducible refine ⟨pk4, ?_⟩
      | with_reducible refine ⟨pk5, ?_⟩
      | with_reducible refine ⟨pk6, ?_⟩
      | with_reducible refine ⟨trivial, ?_⟩
      | with_reducible refine ⟨fun _ => trivial, ?_⟩
      | with_reducible refine fork_t (by assumption) ?_
      | with_reducible refine fork_f (by assumption) ?_
      | refine fork_t rfl ?_
      | refine fork_f rfl ?_
      | with_reducible refine fork_i (fun h => ?_) (fun h => ?_)
      | with_reducible refine both_i ?_ ?_
      | ((with_reducible refine alike_i ?_); exact ⟨rfl, rfl, rfl⟩)
      | ((with_reducible refine fin_i ?_); (conv => whnf); refine ⟨rfl, ?_⟩)
      | refine ⟨fun _ => hf, ?_⟩
      | refine ⟨of_decide_eq_true rfl, ?_⟩
      | refine ⟨fun _ => of_decide_eq_true rfl, ?_⟩
      | ((with_reducible refine ⟨?_, ?_⟩); (focus (intros; simp_all; done)))
      | ((with_reducible refine ⟨?_, ?_⟩); (focus (intros; omega)))) <;> (try (conv => whnf)))
    all_goals ((with_reducible refine leaf_i ?_); (conv => whnf))
    repeat' ((with_reducible refine And.intro ?_ ?_) <;> (try (conv => whnf)))
    all_goals (try (first | with_reducible rfl | exact True.intro | rfl | exact id | exact fun h => h | exact fun _ => rfl))
    all_goals (rw [sameU_refl, (eqG_iff g g).2 rfl, beq_self_eq_true])
    all_goals rfl

theorem head_of {t : Ty} {l r : List (El t)} {n : Nat} {x : El t} (h : l.drop n = x :: r) : n < l.length ∧ getE t l n = x ∧ l.drop (n + 1) = r := by
  have hn : n < l.length := by
    have := congrArg List.length h
    simp at this; omega
  rw [drop_get l hn] at h
  injection h with h1 h2
  exact ⟨hn, h1, h2⟩
theorem rtmay (b : Bool) : (b == b) = true := beq_self_eq_true b
def k_lsame : Sig := .arg (shR tN) fun a => .arg (shR tN) fun b => .done { pre := True, res := B true }
set_option maxRecDepth 100000 in
set_option maxHeartbeats 8000000 in
theorem c_lsame : FnOk Try.prog 7 k_lsame.con := by
  refine fnOkS mixed tys_ok (cs := csL) csL_ok Try.func7 rfl (by kernel_rfl) Try.ntmps7 _ (h := ?_)
  intro a b
  refine ⟨rfl, fun _ => ?_⟩
  conv => whnf
  repeat' ((first
    | with_reducible refine ⟨fun h => h, ?_⟩
    | with_reducible refine ⟨pk1, ?_⟩
    | with_reducible refine ⟨pk2, ?_⟩
    | with_reducible refine ⟨pk3, ?_⟩
    | with_reducible refine ⟨pk4, ?_⟩
    | with_reducible refine ⟨pk5, ?_⟩
    | with_reducible refine ⟨pk6, ?_⟩
    | with_reducible refine ⟨trivial, ?_⟩
    | with_reducible refine ⟨fun _ => trivial, ?_⟩
    | with_reducible refine fork_t (by assumption) ?_
    | with_reducible refine fork_f (by assumption) ?_
    | refine fork_t rfl ?_
    | refine fork_f rfl ?_
    | with_reducible refine fork_i (fun h => ?_) (fun h => ?_)
    | with_reducible refine both_i ?_ ?_
    | ((with_reducible refine alike_i ?_); exact ⟨rfl, rfl, rfl⟩)
    | ((with_reducible refine fin_i ?_); (conv => whnf); refine ⟨rfl, ?_⟩)
    | refine ⟨of_decide_eq_true rfl, ?_⟩
    | refine ⟨fun _ => of_decide_eq_true rfl, ?_⟩
    | ((with_reducible refine ⟨?_, ?_⟩); (focus (intros; simp_all; done)))
    | ((with_reducible refine ⟨?_, ?_⟩); (focus (intros; omega)))) <;> (try (conv => whnf)))
  · all_goals ((with_reducible refine leaf_i ?_); (conv => whnf))
    repeat' ((with_reducible refine And.intro ?_ ?_) <;> (try (conv => whnf)))
    all_goals (try (first | with_reducible rfl | exact True.intro | rfl | exact id | exact fun h => h | exact fun _ => rfl))
  · have h : (bif !insG a 40 then true else !insG b 40) = false := h
    rw [Bool.cond_true_left, Bool.or_eq_false_iff] at h
    obtain ⟨hf, hl, hx⟩ := fit_ins (not_f h.1) (by decide)
    conv => whnf
    repeat' ((first
      | with_reducible refine ⟨fun h => h, ?_⟩
      | with_reducible refine ⟨pk1, ?_⟩
      | with_reducible refine ⟨pk2, ?_⟩
      | with_reducible refine ⟨pk3, ?_⟩
      | with_reducible refine ⟨pk4, ?_⟩
      | with_reducible refine ⟨pk5, ?_⟩
      | with_reducible refine ⟨pk6, ?_⟩
      | with_reducible refine ⟨trivial, ?_⟩
      | with_reducible refine ⟨fun _ => trivial, ?_⟩
      | with_reducible refine fork_t (by assumption) ?_
      | with_reducible refine fork_f (by assumption) ?_
      | refine fork_t rfl ?_
      | refine fork_f rfl ?_
      | with_reducible refine fork_i (fun h => ?_) (fun h => ?_)
      | with_reducible refine both_i ?_ ?_
      | ((with_reducible refine alike_i ?_); exact ⟨rfl, rfl, rfl⟩)
      | ((with_reducible refine fin_i ?_); (conv => whnf); refine ⟨rfl, ?_⟩)
      | refine ⟨hf, ?_⟩
      | refine ⟨fun _ => hf, ?_⟩
      | refine ⟨of_decide_eq_true rfl, ?_⟩
      | refine ⟨fun _ => of_decide_eq_true rfl, ?_⟩
      | ((with_reducible refine ⟨?_, ?_⟩); (focus (intros; simp_all; done)))
      | ((with_reducible refine ⟨?_, ?_⟩); (focus (intros; omega)))) <;> (try (conv => whnf)))
    all_goals ((with_reducible refine leaf_i ?_); (conv => whnf))
    repeat' ((with_reducible refine And.intro ?_ ?_) <;> (try (conv => whnf)))
    all_goals (try (first | with_reducible rfl | exact True.intro | rfl | exact id | exact fun h => h | exact fun _ => rfl))
    all_goals (rw [beq_self_eq_true, (eqG_iff a a).2 rfl]; rfl)

def k_lapart : Sig := .arg (shR tN) fun a => .arg (shR tN) fun b => .done { pre := okG a ∧ okG b, res := B true }
set_option maxRecDepth 100000 in
set_option maxHeartbeats 8000000 in
theorem c_lapart : FnOk Try.prog 8 k_lapart.con := by
  refine fnOkS mixed tys_ok (cs := csL) csL_ok Try.func8 rfl (by kernel_rfl) Try.ntmps8 _ (h := ?_)
  intro a b
  refine ⟨rfl, fun hp => ?_⟩
  obtain ⟨ha, hb⟩ := hp
  conv => whnf
  repeat' ((first
    | with_reducible refine ⟨fun h => h, ?_⟩
    | with_reducible refine ⟨pk1, ?_⟩
    | with_reducible refine ⟨pk2, ?_⟩
    | with_reducible refine ⟨pk3, ?_⟩
    | with_reducible refine ⟨pk4, ?_⟩
    | with_reducible refine ⟨pk5, ?_⟩
    | with_reducible refine ⟨pk6, ?_⟩
    | with_reducible refine ⟨trivial, ?_⟩
    | with_reducible refine ⟨fun _ => trivial, ?_⟩
    | with_reducible refine fork_t (by assumption) ?_
    | with_reducible refine fork_f (by assumption) ?_
    | refine fork_t rfl ?_
    | refine fork_f rfl ?_
    | with_reducible refine fork_i (fun h => ?_) (fun h => ?_)
    | with_reducible refine both_i ?_ ?_
    | ((with_reducible refine alike_i ?_); exact ⟨rfl, rfl, rfl⟩)
    | ((with_reducible refine fin_i ?_); (conv => whnf); refine ⟨rfl, ?_⟩)
    | refine ⟨of_decide_eq_true rfl, ?_⟩
    | refine ⟨fun _ => of_decide_eq_true rfl, ?_⟩
    | ((with_reducible refine ⟨?_, ?_⟩); (focus (intros; simp_all; done)))
    | ((with_reducible refine ⟨?_, ?_⟩); (focus (intros; omega)))) <;> (try (conv => whnf)))
  · all_goals ((with_reducible refine leaf_i ?_); (conv => whnf))
    repeat' ((with_reducible refine And.intro ?_ ?_) <;> (try (conv => whnf)))
    all_goals (try (first | with_reducible rfl | exact True.intro | rfl | exact id | exact fun h => h | exact fun _ => rfl))
  · have h : (bif !insG a 40 then true else !insG b 40) = false := h
    rw [Bool.cond_true_left, Bool.or_eq_false_iff] at h
    obtain ⟨hf, hl, hx⟩ := fit_ins (not_f h.1) (by decide)
    obtain ⟨hf2, hl2, hx2⟩ := fit_ins (not_f h.2) (by decide)
    conv => whnf
    repeat' ((first
      | with_reducible refine ⟨fun h => h, ?_⟩
      | with_reducible refine ⟨pk1, ?_⟩
      | with_reducible refine ⟨pk2, ?_⟩
      | with_reducible refine ⟨pk3, ?_⟩
      | with_reducible refine ⟨pk4, ?_⟩
      | with_reducible refine ⟨pk5, ?_⟩
      | with_reducible refine ⟨pk6, ?_⟩
      | with_reducible refine ⟨trivial, ?_⟩
      | with_reducible refine ⟨fun _ => trivial, ?_⟩
      | with_reducible refine fork_t (by assumption) ?_
      | with_reducible refine fork_f (by assumption) ?_
      | refine fork_t rfl ?_
      | refine fork_f rfl ?_
      | with_reducible refine fork_i (fun h => ?_) (fun h => ?_)
      | with_reducible refine both_i ?_ ?_
      | ((with_reducible refine alike_i ?_); exact ⟨rfl, rfl, rfl⟩)
      | ((with_reducible refine fin_i ?_); (conv => whnf); refine ⟨rfl, ?_⟩)
      | refine ⟨hf, ?_⟩
      | refine ⟨hf2, ?_⟩
      | refine ⟨fun _ => hf, ?_⟩
      | refine ⟨of_decide_eq_true rfl, ?_⟩
      | refine ⟨fun _ => of_decide_eq_true rfl, ?_⟩
      | ((with_reducible refine ⟨?_, ?_⟩); (focus (intros; simp_all; done)))
      | ((with_reducible refine ⟨?_, ?_⟩); (focus (intros; omega)))) <;> (try (conv => whnf)))
    · all_goals ((with_reducible refine leaf_i ?_); (conv => whnf))
      repeat' ((with_reducible refine And.intro ?_ ?_) <;> (try (conv => whnf)))
      all_goals (try (first | with_reducible rfl | exact True.intro | rfl | exact id | exact fun h => h | exact fun _ => rfl))
    · have h3 : (bif ((putG a).2 != 0) then true else ((putG b).2 != 0)) = false := by assumption
      rw [Bool.cond_true_left, Bool.or_eq_false_iff] at h3
      have e1 := bne_f h3.1
      have e2 := bne_f h3.2
      have hap := apart ha hb (x := (putG a).1) (y := (putG b).1) (by rw [← e1]) (by rw [← e2])
      have hmb := map_byte (putG_isB ha) (putG_isB hb)
      have hq : (sameU (putG a).1 (putG b).1 == eqG a b) = true := by
        have h1 : (sameU (putG a).1 (putG b).1 = true) ↔ (eqG a b = true) := by
          unfold sameU
          rw [beq_iff_eq, hmb, hap, eqG_iff]
        rw [beq_iff_eq, Bool.eq_iff_iff]; exact h1
      conv => whnf
      repeat' ((first
        | with_reducible refine ⟨fun h => h, ?_⟩
        | with_reducible refine ⟨pk1, ?_⟩
        | with_reducible refine ⟨pk2, ?_⟩
        | with_reducible refine ⟨pk3, ?_⟩
        | with_reducible refine ⟨pk4, ?_⟩
        | with_reducible refine ⟨pk5, ?_⟩
        | with_reducible refine ⟨pk6, ?_⟩
        | with_reducible refine ⟨trivial, ?_⟩
        | with_reducible refine ⟨fun _ => trivial, ?_⟩
        | with_reducible refine fork_t (by assumption) ?_
        | with_reducible refine fork_f (by assumption) ?_
        | refine fork_t rfl ?_
        | refine fork_f rfl ?_
        | with_reducible refine fork_i (fun h => ?_) (fun h => ?_)
        | with_reducible refine both_i ?_ ?_
        | ((with_reducible refine alike_i ?_); exact ⟨rfl, rfl, rfl⟩)
        | ((with_reducible refine fin_i ?_); (conv => whnf); refine ⟨rfl, ?_⟩)
        | refine ⟨hf, ?_⟩
        | refine ⟨hf2, ?_⟩
        | refine ⟨fun _ => hf, ?_⟩
        | refine ⟨of_decide_eq_true rfl, ?_⟩
        | refine ⟨fun _ => of_decide_eq_true rfl, ?_⟩
        | ((with_reducible refine ⟨?_, ?_⟩); (focus (intros; simp_all; done)))
        | ((with_reducible refine ⟨?_, ?_⟩); (focus (intros; omega)))) <;> (try (conv => whnf)))
      all_goals ((with_reducible refine leaf_i ?_); (conv => whnf))
      repeat' ((with_reducible refine And.intro ?_ ?_) <;> (try (conv => whnf)))
      all_goals (try (first | with_reducible rfl | exact True.intro | rfl | exact id | exact fun h => h | exact fun _ => rfl))
      all_goals first | rfl | (rw [hq]; rfl) | trace_state

def csT : List (FuncId × Con) := [(22, k_to.con), (11, k_ins.con), (23, k_rto.con), (12, k_works.con)]
theorem csT_ok : AllFn Try.prog csT := ⟨c_to, c_ins, c_rto, c_works, trivial⟩
def k_lfed : Sig := .arg (shR tN) fun g => .arg shI fun i => .done { pre := True, res := B true }
set_option maxRecDepth 100000 in
set_option maxHeartbeats 8000000 in
theorem c_lfed : FnOk Try.prog 9 k_lfed.con := by
  refine fnOkS mixed tys_ok (cs := csT) csT_ok Try.func9 rfl (by kernel_rfl) Try.ntmps9 _ (h := ?_)
  intro g i
  refine ⟨rfl, fun hp => ?_⟩
  conv => whnf
  repeat' ((first
    | with_reducible refine ⟨fun h => h, ?_⟩
    | with_reducible refine ⟨pk1, ?_⟩
    | with_reducible refine ⟨pk2, ?_⟩
    | with_reducible refine ⟨pk3, ?_⟩
    | with_reducible refine ⟨pk4, ?_⟩
    | with_reducible refine ⟨pk5, ?_⟩
    | with_reducible refine ⟨pk6, ?_⟩
    | with_reducible refine ⟨trivial, ?_⟩
    | with_reducible refine ⟨fun _ => trivial, ?_⟩
    | with_reducible refine fork_t (by assumption) ?_
    | with_reducible refine fork_f (by assumption) ?_
    | refine fork_t rfl ?_
    | refine fork_f rfl ?_
    | with_reducible refine fork_i (fun h => ?_) (fun h => ?_)
    | with_reducible refine both_i ?_ ?_
    | ((with_reducible refine alike_i ?_); exact ⟨rfl, rfl, rfl⟩)
    | ((with_reducible refine fin_i ?_); (conv => whnf); refine ⟨rfl, ?_⟩)
    | refine ⟨of_decide_eq_true rfl, ?_⟩
    | refine ⟨fun _ => of_decide_eq_true rfl, ?_⟩
    | ((with_reducible refine ⟨?_, ?_⟩); (focus (intros; simp_all; done)))
    | ((with_reducible refine ⟨?_, ?_⟩); (focus (intros; omega)))) <;> (try (conv => whnf)))
  · all_goals ((with_reducible refine leaf_i ?_); (conv => whnf))
    repeat' ((with_reducible refine And.intro ?_ ?_) <;> (try (conv => whnf)))
    all_goals (try (first | with_reducible rfl | exact True.intro | rfl | exact id | exact fun h => h | exact fun _ => rfl))
  · obtain ⟨hf, hl, hx⟩ := fit_ins (not_f h) (by decide)
    have hf1 := hf.1
    have hL : (toG g i).length ≤ 1000000 := Nat.le_trans (toG_le hx i) (by have := Nat.mul_le_mul_right 1000 hl; omega)
    refine ⟨⟨by omega, hf.1, hf.2⟩, ?_⟩
    (conv => whnf)
    conv => whnf
    repeat' ((first
      | with_reducible refine ⟨fun h => h, ?_⟩
      | with_reducible refine ⟨pk1, ?_⟩
      | with_reducible refine ⟨pk2, ?_⟩
      | with_reducible refine ⟨pk3, ?_⟩
      | with_reducible refine ⟨pk4, ?_⟩
      | with_reducible refine ⟨pk5, ?_⟩
      | with_reducible refine ⟨pk6, ?_⟩
      | with_reducible refine ⟨trivial, ?_⟩
      | with_reducible refine ⟨fun _ => trivial, ?_⟩
      | with_reducible refine fork_t (by assumption) ?_
      | with_reducible refine fork_f (by assumption) ?_
      | refine fork_t rfl ?_
      | refine fork_f rfl ?_
      | with_reducible refine fork_i (fun h => ?_) (fun h => ?_)
      | with_reducible refine both_i ?_ ?_
      | ((with_reducible refine alike_i ?_); exact ⟨rfl, rfl, rfl⟩)
      | ((with_reducible refine fin_i ?_); (conv => whnf); refine ⟨rfl, ?_⟩)
      | refine ⟨of_decide_eq_true rfl, ?_⟩
      | refine ⟨fun _ => of_decide_eq_true rfl, ?_⟩
      | ((with_reducible refine ⟨?_, ?_⟩); (focus (intros; simp_all; done)))
      | ((with_reducible refine ⟨?_, ?_⟩); (focus (intros; omega)))) <;> (try (conv => whnf)))
    refine looped (σ := Nat × Nat) (fun x => [(7, I x.1), (6, I x.2)]) (fun _ => []) (fun x => x.1 ≤ g.length ∧ x.2 ≤ (toG g i).length ∧ (toG g i).drop x.2 = toOut i x.1 (g.drop x.1)) (fun x => g.length - x.1) (0, 0) ⟨Nat.zero_le _, Nat.zero_le _, rfl⟩ ?_ ?_
    · conv => whnf
      refine ⟨rfl, leaf_i ?_⟩
      repeat' ((with_reducible refine And.intro ?_ ?_) <;> (try (conv => whnf)))
      all_goals (try (first | with_reducible rfl | exact True.intro | rfl | exact id | exact fun h => h | exact fun _ => rfl))
    · rintro ⟨k, n⟩ ⟨hk, hn, hd⟩
      dsimp only at hk hn hd ⊢
      conv => whnf
      repeat' ((first
        | with_reducible refine ⟨fun h => h, ?_⟩
        | with_reducible refine ⟨pk1, ?_⟩
        | with_reducible refine ⟨pk2, ?_⟩
        | with_reducible refine ⟨pk3, ?_⟩
        | with_reducible refine ⟨pk4, ?_⟩
        | with_reducible refine ⟨pk5, ?_⟩
        | with_reducible refine ⟨pk6, ?_⟩
        | with_reducible refine ⟨trivial, ?_⟩
        | with_reducible refine ⟨fun _ => trivial, ?_⟩
        | with_reducible refine fork_t (by assumption) ?_
        | with_reducible refine fork_f (by assumption) ?_
        | refine fork_t rfl ?_
        | refine fork_f rfl ?_
        | with_reducible refine fork_i (fun h => ?_) (fun h => ?_)
        | with_reducible refine both_i ?_ ?_
        | ((with_reducible refine alike_i ?_); exact ⟨rfl, rfl, rfl⟩)
        | ((with_reducible refine fin_i ?_); (conv => whnf); refine ⟨rfl, ?_⟩)
        | refine ⟨of_decide_eq_true rfl, ?_⟩
        | refine ⟨fun _ => of_decide_eq_true rfl, ?_⟩
        | ((with_reducible refine ⟨?_, ?_⟩); (focus (intros; simp_all; done)))
        | ((with_reducible refine ⟨?_, ?_⟩); (focus (intros; omega)))) <;> (try (conv => whnf)))
      · have hk' : k < g.length := lt_t (by assumption)
        have hx3 := hx _ (getE_mem g hk')
        rw [drop_get g hk', toOut] at hd
        refine looped (σ := Nat × Nat) (fun x => [(8, I x.1), (6, I x.2)]) (fun _ => []) (fun x => x.1 ≤ (Nd.ins (getE tN g k)).length ∧ x.2 ≤ (toG g i).length ∧ (toG g i).drop x.2 = toIn k i x.1 ((Nd.ins (getE tN g k)).drop x.1) ++ toOut i (k + 1) (g.drop (k + 1))) (fun x => (Nd.ins (getE tN g k)).length - x.1) (0, n) ⟨Nat.zero_le _, hn, hd⟩ ?_ ?_
        · conv => whnf
          refine ⟨rfl, leaf_i ?_⟩
          repeat' ((with_reducible refine And.intro ?_ ?_) <;> (try (conv => whnf)))
          all_goals (try (first | with_reducible rfl | exact True.intro | rfl | exact id | exact fun h => h | exact fun _ => rfl))
        · rintro ⟨p, n⟩ ⟨hp, hn, hd⟩
          dsimp only at hp hn hd ⊢
          conv => whnf
          repeat' ((first
            | with_reducible refine ⟨fun h => h, ?_⟩
            | with_reducible refine ⟨pk1, ?_⟩
            | with_reducible refine ⟨pk2, ?_⟩
            | with_reducible refine ⟨pk3, ?_⟩
            | with_reducible refine ⟨pk4, ?_⟩
            | with_reducible refine ⟨pk5, ?_⟩
            | with_reducible refine ⟨pk6, ?_⟩
            | with_reducible refine ⟨trivial, ?_⟩
            | with_reducible refine ⟨fun _ => trivial, ?_⟩
            | with_reducible refine fork_t (by assumption) ?_
            | with_reducible refine fork_f (by assumption) ?_
            | refine fork_t rfl ?_
            | refine fork_f rfl ?_
            | with_reducible refine fork_i (fun h => ?_) (fun h => ?_)
            | with_reducible refine both_i ?_ ?_
            | ((with_reducible refine alike_i ?_); exact ⟨rfl, rfl, rfl⟩)
            | ((with_reducible refine fin_i ?_); (conv => whnf); refine ⟨rfl, ?_⟩)
            | refine ⟨of_decide_eq_true rfl, ?_⟩
            | refine ⟨fun _ => of_decide_eq_true rfl, ?_⟩
            | ((with_reducible refine ⟨?_, ?_⟩); (focus (intros; simp_all; done)))
            | ((with_reducible refine ⟨?_, ?_⟩); (focus (intros; omega)))) <;> (try (conv => whnf)))
          · have hp' : p < (Nd.ins (getE tN g k)).length := lt_t (by assumption)
            have hxe : (getE tI (Nd.ins (getE tN g k)) p).1 = i := beq_t (by assumption)
            rw [drop_get _ hp', toIn, if_pos hxe] at hd
            obtain ⟨q1, q2, q3⟩ := head_of hd
            exfalso
            have h : (bif bif decide ((n : Int) ≥ ((toG g i).length : Int)) then true else (getE tP (toG g i) n).1 != (k : Int) then true else (getE tP (toG g i) n).2.1 != (p : Int)) = true := h
            rw [q2, decide_eq_false (by omega)] at h
            simp at h
          · have hp' : p < (Nd.ins (getE tN g k)).length := lt_t (by assumption)
            have hxe : (getE tI (Nd.ins (getE tN g k)) p).1 = i := beq_t (by assumption)
            rw [drop_get _ hp', toIn, if_pos hxe] at hd
            obtain ⟨q1, q2, q3⟩ := head_of hd
            refine next_i (p + 1, n + 1) ⟨hp', q1, by simpa using q3⟩ (by dsimp only; omega) rfl rfl ?_
            conv => whnf
            refine ⟨rfl, leaf_i ?_⟩
            repeat' ((with_reducible refine And.intro ?_ ?_) <;> (try (conv => whnf)))
            all_goals (try (first | with_reducible rfl | exact True.intro | rfl | exact id | exact fun h => h | exact fun _ => rfl))
            all_goals exact wrapS (by omega)
          · have hp' : p < (Nd.ins (getE tN g k)).length := lt_t (by assumption)
            have hxe : ¬ (getE tI (Nd.ins (getE tN g k)) p).1 = i := beq_f (by assumption)
            rw [drop_get _ hp', toIn, if_neg hxe] at hd
            refine next_i (p + 1, n) ⟨hp', hn, by simpa using hd⟩ (by dsimp only; omega) rfl rfl ?_
            conv => whnf
            refine ⟨rfl, leaf_i ?_⟩
            repeat' ((with_reducible refine And.intro ?_ ?_) <;> (try (conv => whnf)))
            all_goals (try (first | with_reducible rfl | exact True.intro | rfl | exact id | exact fun h => h | exact fun _ => rfl))
            all_goals exact wrapS (by omega)
          · have hp' : (Nd.ins (getE tN g k)).length ≤ p := lt_f (by assumption)
            rw [List.drop_eq_nil_of_le hp', toIn, List.nil_append] at hd
            refine next_i (k + 1, n) ⟨hk', hn, by simpa using hd⟩ (by dsimp only; omega) rfl rfl ?_
            conv => whnf
            refine ⟨rfl, leaf_i ?_⟩
            repeat' ((with_reducible refine And.intro ?_ ?_) <;> (try (conv => whnf)))
            all_goals (try (first | with_reducible rfl | exact True.intro | rfl | exact id | exact fun h => h | exact fun _ => rfl))
            all_goals exact wrapS (by omega)
      · have hk' : g.length ≤ k := lt_f (by assumption)
        rw [List.drop_eq_nil_of_le hk', toOut] at hd
        have : n = (toG g i).length := by have := congrArg List.length hd; simp at this; omega
        subst this
        conv => whnf
        repeat' ((first
          | with_reducible refine ⟨fun h => h, ?_⟩
          | with_reducible refine ⟨pk1, ?_⟩
          | with_reducible refine ⟨pk2, ?_⟩
          | with_reducible refine ⟨pk3, ?_⟩
          | with_reducible refine ⟨pk4, ?_⟩
          | with_reducible refine ⟨pk5, ?_⟩
          | with_reducible refine ⟨pk6, ?_⟩
          | with_reducible refine ⟨trivial, ?_⟩
          | with_reducible refine ⟨fun _ => trivial, ?_⟩
          | with_reducible refine fork_t (by assumption) ?_
          | with_reducible refine fork_f (by assumption) ?_
          | refine fork_t rfl ?_
          | refine fork_f rfl ?_
          | with_reducible refine fork_i (fun h => ?_) (fun h => ?_)
          | with_reducible refine both_i ?_ ?_
          | ((with_reducible refine alike_i ?_); exact ⟨rfl, rfl, rfl⟩)
          | ((with_reducible refine fin_i ?_); (conv => whnf); refine ⟨rfl, ?_⟩)
          | refine ⟨of_decide_eq_true rfl, ?_⟩
          | refine ⟨fun _ => of_decide_eq_true rfl, ?_⟩
          | ((with_reducible refine ⟨?_, ?_⟩); (focus (intros; simp_all; done)))
          | ((with_reducible refine ⟨?_, ?_⟩); (focus (intros; omega)))) <;> (try (conv => whnf)))
        all_goals ((with_reducible refine leaf_i ?_); (conv => whnf))
        repeat' ((with_reducible refine And.intro ?_ ?_) <;> (try (conv => whnf)))
        all_goals (try (first | with_reducible rfl | exact True.intro | rfl | exact id | exact fun h => h | exact fun _ => rfl))
        all_goals (first | rfl | (rw [beq_self_eq_true]; rfl) | trace_state)

def k_lto : Sig := .arg (shR tN) fun g => .arg shI fun i => .done { pre := True, res := B true }
set_option maxRecDepth 100000 in
set_option maxHeartbeats 8000000 in
theorem c_lto : FnOk Try.prog 6 k_lto.con := by
  refine fnOkS mixed tys_ok (cs := csT) csT_ok Try.func6 rfl (by kernel_rfl) Try.ntmps6 _ (h := ?_)
  intro g i
  refine ⟨rfl, fun hp => ?_⟩
  conv => whnf
  repeat' ((first
    | with_reducible refine ⟨fun h => h, ?_⟩
    | with_reducible refine ⟨pk1, ?_⟩
    | with_reducible refine ⟨pk2, ?_⟩
    | with_reducible refine ⟨pk3, ?_⟩
    | with_reducible refine ⟨pk4, ?_⟩
    | with_reducible refine ⟨pk5, ?_⟩
    | with_reducible refine ⟨pk6, ?_⟩
    | with_reducible refine ⟨trivial, ?_⟩
    | with_reducible refine ⟨fun _ => trivial, ?_⟩
    | with_reducible refine fork_t (by assumption) ?_
    | with_reducible refine fork_f (by assumption) ?_
    | refine fork_t rfl ?_
    | refine fork_f rfl ?_
    | with_reducible refine fork_i (fun h => ?_) (fun h => ?_)
    | with_reducible refine both_i ?_ ?_
    | ((with_reducible refine alike_i ?_); exact ⟨rfl, rfl, rfl⟩)
    | ((with_reducible refine fin_i ?_); (conv => whnf); refine ⟨rfl, ?_⟩)
    | refine ⟨of_decide_eq_true rfl, ?_⟩
    | refine ⟨fun _ => of_decide_eq_true rfl, ?_⟩
    | ((with_reducible refine ⟨?_, ?_⟩); (focus (intros; simp_all; done)))
    | ((with_reducible refine ⟨?_, ?_⟩); (focus (intros; omega)))) <;> (try (conv => whnf)))
  · all_goals ((with_reducible refine leaf_i ?_); (conv => whnf))
    repeat' ((with_reducible refine And.intro ?_ ?_) <;> (try (conv => whnf)))
    all_goals (try (first | with_reducible rfl | exact True.intro | rfl | exact id | exact fun h => h | exact fun _ => rfl))
  · obtain ⟨hf, hl, hx⟩ := fit_ins (not_f h) (by decide)
    have hf1 := hf.1
    have hL : ∀ i, (toG g i).length ≤ 1000000 := fun i => Nat.le_trans (toG_le hx i) (by have := Nat.mul_le_mul_right 1000 hl; omega)
    have hLi := hL i
    refine ⟨⟨by omega, hf.1, hf.2⟩, ?_⟩
    (conv => whnf)
    refine ⟨⟨by omega, hf⟩, ?_⟩
    (conv => whnf)
    conv => whnf
    repeat' ((first
      | with_reducible refine ⟨fun h => h, ?_⟩
      | with_reducible refine ⟨pk1, ?_⟩
      | with_reducible refine ⟨pk2, ?_⟩
      | with_reducible refine ⟨pk3, ?_⟩
      | with_reducible refine ⟨pk4, ?_⟩
      | with_reducible refine ⟨pk5, ?_⟩
      | with_reducible refine ⟨pk6, ?_⟩
      | with_reducible refine ⟨trivial, ?_⟩
      | with_reducible refine ⟨fun _ => trivial, ?_⟩
      | with_reducible refine fork_t (by assumption) ?_
      | with_reducible refine fork_f (by assumption) ?_
      | refine fork_t rfl ?_
      | refine fork_f rfl ?_
      | with_reducible refine fork_i (fun h => ?_) (fun h => ?_)
      | with_reducible refine both_i ?_ ?_
      | ((with_reducible refine alike_i ?_); exact ⟨rfl, rfl, rfl⟩)
      | ((with_reducible refine fin_i ?_); (conv => whnf); refine ⟨rfl, ?_⟩)
      | refine ⟨of_decide_eq_true rfl, ?_⟩
      | refine ⟨fun _ => of_decide_eq_true rfl, ?_⟩
      | ((with_reducible refine ⟨?_, ?_⟩); (focus (intros; simp_all; done)))
      | ((with_reducible refine ⟨?_, ?_⟩); (focus (intros; omega)))) <;> (try (conv => whnf)))
    · exact absurd rfl (bnl_t (by assumption))
    refine looped (σ := Nat) (fun k => [(7, I k)]) (fun _ => []) (fun k => k ≤ (toG g i).length) (fun k => (toG g i).length - k) 0 (Nat.zero_le _) ?_ ?_
    · conv => whnf
      refine ⟨rfl, leaf_i ?_⟩
      repeat' ((with_reducible refine And.intro ?_ ?_) <;> (try (conv => whnf)))
      all_goals (try (first | with_reducible rfl | exact True.intro | rfl | exact id | exact fun h => h | exact fun _ => rfl))
    · rintro k hk
      conv => whnf
      repeat' ((first
        | with_reducible refine ⟨fun h => h, ?_⟩
        | with_reducible refine ⟨pk1, ?_⟩
        | with_reducible refine ⟨pk2, ?_⟩
        | with_reducible refine ⟨pk3, ?_⟩
        | with_reducible refine ⟨pk4, ?_⟩
        | with_reducible refine ⟨pk5, ?_⟩
        | with_reducible refine ⟨pk6, ?_⟩
        | with_reducible refine ⟨trivial, ?_⟩
        | with_reducible refine ⟨fun _ => trivial, ?_⟩
        | with_reducible refine fork_t (by assumption) ?_
        | with_reducible refine fork_f (by assumption) ?_
        | refine fork_t rfl ?_
        | refine fork_f rfl ?_
        | with_reducible refine fork_i (fun h => ?_) (fun h => ?_)
        | with_reducible refine both_i ?_ ?_
        | ((with_reducible refine alike_i ?_); exact ⟨rfl, rfl, rfl⟩)
        | ((with_reducible refine fin_i ?_); (conv => whnf); refine ⟨rfl, ?_⟩)
        | refine ⟨of_decide_eq_true rfl, ?_⟩
        | refine ⟨fun _ => of_decide_eq_true rfl, ?_⟩
        | ((with_reducible refine ⟨?_, ?_⟩); (focus (intros; simp_all; done)))
        | ((with_reducible refine ⟨?_, ?_⟩); (focus (intros; omega)))) <;> (try (conv => whnf)))
      · exfalso
        have h : (bif (getE tP (toG g i) k).1 != (getE tP (toG g i) k).1 then true else (getE tP (toG g i) k).2.1 != (getE tP (toG g i) k).2.1) = true := h
        simp at h
      · have hk' : k < (toG g i).length := lt_t (by assumption)
        refine next_i (k + 1) hk' (by omega) rfl rfl ?_
        conv => whnf
        refine ⟨rfl, leaf_i ?_⟩
        repeat' ((with_reducible refine And.intro ?_ ?_) <;> (try (conv => whnf)))
        all_goals (try (first | with_reducible rfl | exact True.intro | rfl | exact id | exact fun h => h | exact fun _ => rfl))
        all_goals exact wrapS (by omega)
      · refine looped (σ := Nat × Nat × Nat) (fun x => [(10, I x.1), (8, I x.2.1), (9, I x.2.2)]) (fun _ => []) (fun x => x.1 ≤ g.length ∧ x.2.1 = cntIn g.length (insOf (g.take x.1)) ∧ x.2.2 = sumTo g x.1) (fun x => g.length - x.1) (0, 0, 0) ⟨Nat.zero_le _, rfl, rfl⟩ ?_ ?_
        · conv => whnf
          refine ⟨rfl, leaf_i ?_⟩
          repeat' ((with_reducible refine And.intro ?_ ?_) <;> (try (conv => whnf)))
          all_goals (try (first | with_reducible rfl | exact True.intro | rfl | exact id | exact fun h => h | exact fun _ => rfl))
        · rintro ⟨n, all, fed⟩ ⟨hn, ha, hfd⟩
          dsimp only at hn ha hfd ⊢
          have hsum : fed ≤ 1000000 := by
            rw [hfd, sumTo_eq]
            exact Nat.le_trans (cntIn_le _ _) (Nat.le_trans (insOf_le hx) (by have := Nat.mul_le_mul_right 1000 hl; omega))
          have hLn := hL n
          conv => whnf
          repeat' ((first
            | with_reducible refine ⟨fun h => h, ?_⟩
            | with_reducible refine ⟨pk1, ?_⟩
            | with_reducible refine ⟨pk2, ?_⟩
            | with_reducible refine ⟨pk3, ?_⟩
            | with_reducible refine ⟨pk4, ?_⟩
            | with_reducible refine ⟨pk5, ?_⟩
            | with_reducible refine ⟨pk6, ?_⟩
            | with_reducible refine ⟨trivial, ?_⟩
            | with_reducible refine ⟨fun _ => trivial, ?_⟩
            | with_reducible refine fork_t (by assumption) ?_
            | with_reducible refine fork_f (by assumption) ?_
            | refine fork_t rfl ?_
            | refine fork_f rfl ?_
            | with_reducible refine fork_i (fun h => ?_) (fun h => ?_)
            | with_reducible refine both_i ?_ ?_
            | ((with_reducible refine alike_i ?_); exact ⟨rfl, rfl, rfl⟩)
            | ((with_reducible refine fin_i ?_); (conv => whnf); refine ⟨rfl, ?_⟩)
            | refine ⟨⟨by omega, hf.1, hf.2⟩, ?_⟩
            | refine ⟨of_decide_eq_true rfl, ?_⟩
            | refine ⟨fun _ => of_decide_eq_true rfl, ?_⟩
            | ((with_reducible refine ⟨?_, ?_⟩); (focus (intros; simp_all; done)))
            | ((with_reducible refine ⟨?_, ?_⟩); (focus (intros; omega)))) <;> (try (conv => whnf)))
          · have hn' : n < g.length := lt_t (by assumption)
            have hx3 := hx _ (getE_mem g hn')
            have hall : all ≤ 1000000 := by
              rw [ha]
              refine Nat.le_trans (cntIn_le _ _) (Nat.le_trans (insOf_le (m := 1000) fun x hh => hx x (List.mem_of_mem_take hh)) ?_)
              have : (g.take n).length ≤ 1000 := by simp; omega
              have := Nat.mul_le_mul_right 1000 this; omega
            refine looped (σ := Nat × Nat) (fun x => [(11, I x.1), (8, I x.2)]) (fun _ => []) (fun x => x.1 ≤ (Nd.ins (getE tN g n)).length ∧ x.2 = all + cntIn g.length ((Nd.ins (getE tN g n)).take x.1)) (fun x => (Nd.ins (getE tN g n)).length - x.1) (0, all) ⟨Nat.zero_le _, rfl⟩ ?_ ?_
            · conv => whnf
              refine ⟨rfl, leaf_i ?_⟩
              repeat' ((with_reducible refine And.intro ?_ ?_) <;> (try (conv => whnf)))
              all_goals (try (first | with_reducible rfl | exact True.intro | rfl | exact id | exact fun h => h | exact fun _ => rfl))
            · rintro ⟨k, all2⟩ ⟨hk, ha2⟩
              dsimp only at hk ha2 ⊢
              have hc : cntIn g.length ((Nd.ins (getE tN g n)).take k) ≤ 1000 := Nat.le_trans (cntIn_le _ _) (by simp; omega)
              conv => whnf
              repeat' ((first
                | with_reducible refine ⟨fun h => h, ?_⟩
                | with_reducible refine ⟨pk1, ?_⟩
                | with_reducible refine ⟨pk2, ?_⟩
                | with_reducible refine ⟨pk3, ?_⟩
                | with_reducible refine ⟨pk4, ?_⟩
                | with_reducible refine ⟨pk5, ?_⟩
                | with_reducible refine ⟨pk6, ?_⟩
                | with_reducible refine ⟨trivial, ?_⟩
                | with_reducible refine ⟨fun _ => trivial, ?_⟩
                | with_reducible refine fork_t (by assumption) ?_
                | with_reducible refine fork_f (by assumption) ?_
                | refine fork_t rfl ?_
                | refine fork_f rfl ?_
                | with_reducible refine fork_i (fun h => ?_) (fun h => ?_)
                | with_reducible refine both_i ?_ ?_
                | ((with_reducible refine alike_i ?_); exact ⟨rfl, rfl, rfl⟩)
                | ((with_reducible refine fin_i ?_); (conv => whnf); refine ⟨rfl, ?_⟩)
                | refine ⟨of_decide_eq_true rfl, ?_⟩
                | refine ⟨fun _ => of_decide_eq_true rfl, ?_⟩
                | ((with_reducible refine ⟨?_, ?_⟩); (focus (intros; simp_all; done)))
                | ((with_reducible refine ⟨?_, ?_⟩); (focus (intros; omega)))) <;> (try (conv => whnf)))
              · have hk' : k < (Nd.ins (getE tN g n)).length := lt_t (by assumption)
                have h : (bif decide ((getE tI (Nd.ins (getE tN g n)) k).1 ≥ 0) then decide ((getE tI (Nd.ins (getE tN g n)) k).1 < (g.length : Int)) else false) = true := h
                rw [Bool.cond_false_right] at h
                refine next_i (k + 1, all2 + 1) ⟨hk', by dsimp only; rw [take_get _ hk', cntIn_app, ha2, cntIn_one, if_pos h]; omega⟩ (by dsimp only; omega) rfl rfl ?_
                conv => whnf
                refine ⟨rfl, leaf_i ?_⟩
                repeat' ((with_reducible refine And.intro ?_ ?_) <;> (try (conv => whnf)))
                all_goals (try (first | with_reducible rfl | exact True.intro | rfl | exact id | exact fun h => h | exact fun _ => rfl))
                all_goals exact wrapS (by omega)
              · have hk' : k < (Nd.ins (getE tN g n)).length := lt_t (by assumption)
                have h : (bif decide ((getE tI (Nd.ins (getE tN g n)) k).1 ≥ 0) then decide ((getE tI (Nd.ins (getE tN g n)) k).1 < (g.length : Int)) else false) = false := h
                rw [Bool.cond_false_right] at h
                refine next_i (k + 1, all2) ⟨hk', by dsimp only; rw [take_get _ hk', cntIn_app, ha2, cntIn_one, if_neg (fun e => by rw [h] at e; cases e)]; omega⟩ (by dsimp only; omega) rfl rfl ?_
                conv => whnf
                refine ⟨rfl, leaf_i ?_⟩
                repeat' ((with_reducible refine And.intro ?_ ?_) <;> (try (conv => whnf)))
                all_goals (try (first | with_reducible rfl | exact True.intro | rfl | exact id | exact fun h => h | exact fun _ => rfl))
                all_goals exact wrapS (by omega)
              · have hk' : (Nd.ins (getE tN g n)).length ≤ k := lt_f (by assumption)
                rw [List.take_of_length_le hk'] at ha2
                refine next_i (n + 1, all2, fed + (toG g n).length) ⟨hn', by dsimp only; rw [ha2, ha, insOf_snoc hn', cntIn_app], by dsimp only; rw [hfd]; rfl⟩ (by dsimp only; omega) rfl rfl ?_
                conv => whnf
                refine ⟨rfl, leaf_i ?_⟩
                repeat' ((with_reducible refine And.intro ?_ ?_) <;> (try (conv => whnf)))
                all_goals (try (first | with_reducible rfl | exact True.intro | rfl | exact id | exact fun h => h | exact fun _ => rfl))
                all_goals first | exact wrapS (by omega) | (rw [IntKind.wrap_i64]; show _ = ((fed + (toG g n).length : Nat) : Int); omega) | trace_state
          · have hn' : g.length ≤ n := lt_f (by assumption)
            have hn2 : n = g.length := by omega
            subst hn2
            rw [List.take_of_length_le (Nat.le_refl _)] at ha
            have he : all = fed := by rw [ha, hfd, sumTo_eq]
            subst he
            conv => whnf
            repeat' ((first
              | with_reducible refine ⟨fun h => h, ?_⟩
              | with_reducible refine ⟨pk1, ?_⟩
              | with_reducible refine ⟨pk2, ?_⟩
              | with_reducible refine ⟨pk3, ?_⟩
              | with_reducible refine ⟨pk4, ?_⟩
              | with_reducible refine ⟨pk5, ?_⟩
              | with_reducible refine ⟨pk6, ?_⟩
              | with_reducible refine ⟨trivial, ?_⟩
              | with_reducible refine ⟨fun _ => trivial, ?_⟩
              | with_reducible refine fork_t (by assumption) ?_
              | with_reducible refine fork_f (by assumption) ?_
              | refine fork_t rfl ?_
              | refine fork_f rfl ?_
              | with_reducible refine fork_i (fun h => ?_) (fun h => ?_)
              | with_reducible refine both_i ?_ ?_
              | ((with_reducible refine alike_i ?_); exact ⟨rfl, rfl, rfl⟩)
              | ((with_reducible refine fin_i ?_); (conv => whnf); refine ⟨rfl, ?_⟩)
              | refine ⟨of_decide_eq_true rfl, ?_⟩
              | refine ⟨fun _ => of_decide_eq_true rfl, ?_⟩
              | ((with_reducible refine ⟨?_, ?_⟩); (focus (intros; simp_all; done)))
              | ((with_reducible refine ⟨?_, ?_⟩); (focus (intros; omega)))) <;> (try (conv => whnf)))
            all_goals ((with_reducible refine leaf_i ?_); (conv => whnf))
            repeat' ((with_reducible refine And.intro ?_ ?_) <;> (try (conv => whnf)))
            all_goals (try (first | with_reducible rfl | exact True.intro | rfl | exact id | exact fun h => h | exact fun _ => rfl))
            all_goals (first | rfl | (rw [beq_self_eq_true]; rfl) | trace_state)
end Go.Proofs.Ytjikhbdpkddbgaa
