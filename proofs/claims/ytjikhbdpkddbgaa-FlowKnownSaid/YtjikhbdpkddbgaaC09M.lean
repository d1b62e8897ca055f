/- Layer 9's statements: FlowGet, FlowBack. -/
import Derived.Test.YtjikhbdpkddbgaaC09L
import Derived.Test.YtjikhbdpkddbgaaC09J
namespace Go.Proofs.Ytjikhbdpkddbgaa
set_option linter.unusedVariables false
set_option linter.unusedSimpArgs false
open Go Go.RowKit Go.Proofs.Ytjikhbdpkddbgaa.Eng

def csM : List (FuncId × Con) := [(14, k_put.con), (18, k_get.con), (21, k_same.con), (16, k_sameB.con), (11, k_ins.con), (20, k_pick.con), (19, k_rget.con), (17, k_rsame.con), (12, k_works.con)]
theorem csM_ok : AllFn Try.prog csM := ⟨c_put, c_get, c_same, c_sameB, c_ins, c_pick, c_rget, c_rsame, c_works, trivial⟩
theorem out_fit {b : List (El tU)} (hb : isB b) : fitG (outG (getC b)).1 := by
  cases h : getC b with
  | none => exact ⟨by show ([] : List Nd).length < _; decide, fun x hx => by cases hx⟩
  | some g =>
    obtain ⟨h1, h2⟩ := put_get hb h
    obtain ⟨h3, h4, _⟩ := put_ok h1
    refine ⟨by show g.length < _; omega, fun x hx => ?_⟩
    have := may_len (List.all_eq_true.1 h4 x hx)
    omega

def k_lget : Sig := .arg (shR tU) fun b => .done { pre := isB b, res := B true }
set_option maxRecDepth 100000 in
set_option maxHeartbeats 8000000 in
theorem c_lget : FnOk Try.prog 4 k_lget.con := by
  refine fnOkS mixed tys_ok (cs := csM) csM_ok Try.func4 rfl (by kernel_rfl) Try.ntmps4 _ (h := ?_)
  intro b
  refine ⟨rfl, fun hB => ?_⟩
  have hB : isB b := hB
  conv => whnf
  repeat' ((first
    | with_reducible refine ⟨fun h => h, ?_⟩
    | with_reducible refine ⟨pk1, ?_⟩
    | with_reducible refine ⟨pk2, ?_⟩
    | with_reducible refine ⟨pk3, ?_⟩
    | with_reducible refine ⟨pk4, ?_⟩
    | with_reducible refine ⟨pk5, ?_⟩
    | with_reducible refine ⟨pk6, ?_⟩
    | with_reducible refine ⟨trivial, ?_⟩
    | with_reducible refine ⟨fun _ => trivial, ?_⟩
    | with_reducible refine fork_t (by assumption) ?_
    | with_reducible refine fork_f (by assumption) ?_
    | refine fork_t rfl ?_
    | refine fork_f rfl ?_
    | with_reducible refine fork_i (fun h => ?_) (fun h => ?_)
    | with_reducible refine both_i ?_ ?_
    | ((with_reducible refine alike_i ?_); exact ⟨rfl, rfl, rfl⟩)
    | ((with_reducible refine fin_i ?_); (conv => whnf); refine ⟨rfl, ?_⟩)
    | refine ⟨of_decide_eq_true rfl, ?_⟩
    | refine ⟨fun _ => of_decide_eq_true rfl, ?_⟩
    | ((with_reducible refine ⟨?_, ?_⟩); (focus (intros; simp_all; done)))
    | ((with_reducible refine ⟨?_, ?_⟩); (focus (intros; omega)))) <;> (try (conv => whnf)))
  · all_goals ((with_reducible refine leaf_i ?_); (conv => whnf))
    repeat' ((with_reducible refine And.intro ?_ ?_) <;> (try (conv => whnf)))
    all_goals (try (first | with_reducible rfl | exact True.intro | rfl | exact id | exact fun h => h | exact fun _ => rfl))
  · have hl : ¬ (b.length : Int) > 1000 := of_decide_eq_false h
    have hbb := bytes_back hB
    have hG := getG_eq hB
    have hR := refG_eq hB
    have hF := out_fit hB
    refine ⟨by rw [bytes_size]; omega, ?_⟩
    (conv => whnf)
    refine ⟨⟨by rw [hbb]; exact hB, by rw [hbb]; omega⟩, ?_⟩
    (conv => whnf)
    refine ⟨⟨hB, by omega⟩, ?_⟩
    (conv => whnf)
    conv => whnf
    repeat' ((first
      | with_reducible refine ⟨fun h => h, ?_⟩
      | with_reducible refine ⟨pk1, ?_⟩
      | with_reducible refine ⟨pk2, ?_⟩
      | with_reducible refine ⟨pk3, ?_⟩
      | with_reducible refine ⟨pk4, ?_⟩
      | with_reducible refine ⟨pk5, ?_⟩
      | with_reducible refine ⟨pk6, ?_⟩
      | with_reducible refine ⟨trivial, ?_⟩
      | with_reducible refine ⟨fun _ => trivial, ?_⟩
      | with_reducible refine fork_t (by assumption) ?_
      | with_reducible refine fork_f (by assumption) ?_
      | refine fork_t rfl ?_
      | refine fork_f rfl ?_
      | with_reducible refine fork_i (fun h => ?_) (fun h => ?_)
      | with_reducible refine both_i ?_ ?_
      | ((with_reducible refine alike_i ?_); exact ⟨rfl, rfl, rfl⟩)
      | ((with_reducible refine fin_i ?_); (conv => whnf); refine ⟨rfl, ?_⟩)
      | refine ⟨fun _ => (by rw [hbb, hG]; exact hF), ?_⟩
      | refine ⟨of_decide_eq_true rfl, ?_⟩
      | refine ⟨fun _ => of_decide_eq_true rfl, ?_⟩
      | ((with_reducible refine ⟨?_, ?_⟩); (focus (intros; simp_all; done)))
      | ((with_reducible refine ⟨?_, ?_⟩); (focus (intros; omega)))) <;> (try (conv => whnf)))
    · exfalso
      have h : (bif bif (getG (ofBytes (bytesOf b))).2 != (refG b).2 then true else !eqG (getG (ofBytes (bytesOf b))).1 (refG b).1 then true else !sameU (ofBytes (bytesOf b)) b) = true := h
      rw [hbb, hG, hR, (eqG_iff _ _).2 rfl, sameU_refl] at h
      simp at h
    · refine kept [3] ?_
      (conv => whnf)
      refine looped (σ := Nat × List (El tU)) (fun x => [(8, I x.1)]) (fun x => [.row true tU 5 x.2]) (fun x => x.1 ≤ (bytesOf b).size ∧ x.2.length = (bytesOf b).size) (fun x => (bytesOf b).size - x.1) (0, ofBytes (bytesOf b)) ⟨Nat.zero_le _, by rw [hbb, bytes_size]⟩ ?_ ?_
      · conv => whnf
        refine ⟨rfl, leaf_i ?_⟩
        repeat' ((with_reducible refine And.intro ?_ ?_) <;> (try (conv => whnf)))
        all_goals (try (first | with_reducible rfl | exact True.intro | rfl | exact id | exact fun h => h | exact fun _ => rfl))
      · rintro ⟨i, l⟩ ⟨hi, hll⟩
        dsimp only at hi hll ⊢
        have hsz := bytes_size b
        conv => whnf
        repeat' ((first
          | with_reducible refine ⟨fun h => h, ?_⟩
          | with_reducible refine ⟨pk1, ?_⟩
          | with_reducible refine ⟨pk2, ?_⟩
          | with_reducible refine ⟨pk3, ?_⟩
          | with_reducible refine ⟨pk4, ?_⟩
          | with_reducible refine ⟨pk5, ?_⟩
          | with_reducible refine ⟨pk6, ?_⟩
          | with_reducible refine ⟨trivial, ?_⟩
          | with_reducible refine ⟨fun _ => trivial, ?_⟩
          | with_reducible refine fork_t (by assumption) ?_
          | with_reducible refine fork_f (by assumption) ?_
          | refine fork_t rfl ?_
          | refine fork_f rfl ?_
          | with_reducible refine fork_i (fun h => ?_) (fun h => ?_)
          | with_reducible refine both_i ?_ ?_
          | ((with_reducible refine alike_i ?_); exact ⟨rfl, rfl, rfl⟩)
          | ((with_reducible refine fin_i ?_); (conv => whnf); refine ⟨rfl, ?_⟩)
          | refine ⟨of_decide_eq_true rfl, ?_⟩
          | refine ⟨fun _ => of_decide_eq_true rfl, ?_⟩
          | ((with_reducible refine ⟨?_, ?_⟩); (focus (intros; simp_all; done)))
          | ((with_reducible refine ⟨?_, ?_⟩); (focus (intros; omega)))) <;> (try (conv => whnf)))
        · have hi' : i < (bytesOf b).size := lt_t (by assumption)
          refine next_i (i + 1, l.set i (IntKind.u8.wrap ((getE tU l i).1 + 1), ())) ⟨hi', by dsimp only; rw [List.length_set, hll]⟩ (by dsimp only; omega) rfl rfl ?_
          conv => whnf
          refine ⟨rfl, leaf_i ?_⟩
          repeat' ((with_reducible refine And.intro ?_ ?_) <;> (try (conv => whnf)))
          all_goals (try (first | with_reducible rfl | exact True.intro | rfl | exact id | exact fun h => h | exact fun _ => rfl))
          all_goals first | exact wrapS (by omega) | rfl | trace_state
        · all_goals ((with_reducible refine leaf_i ?_); (conv => whnf))
          repeat' ((with_reducible refine And.intro ?_ ?_) <;> (try (conv => whnf)))
          all_goals (try (first | with_reducible rfl | exact True.intro | rfl | exact id | exact fun h => h | exact fun _ => rfl))
          all_goals (rw [hbb, hG, hR, (eqG_iff _ _).2 rfl]; rfl)

def k_lback : Sig := .arg (shR tN) fun g => .arg (shR tU) fun b => .arg shI fun cut => .done { pre := okG g ∧ isB b, res := B true }
set_option maxRecDepth 100000 in
set_option maxHeartbeats 8000000 in
theorem c_lback : FnOk Try.prog 5 k_lback.con := by
  refine fnOkS mixed tys_ok (cs := csM) csM_ok Try.func5 rfl (by kernel_rfl) Try.ntmps5 _ (h := ?_)
  intro g b cut
  refine ⟨rfl, fun hp => ?_⟩
  obtain ⟨hO, hB⟩ := hp
  conv => whnf
  repeat' ((first
    | with_reducible refine ⟨fun h => h, ?_⟩
    | with_reducible refine ⟨pk1, ?_⟩
    | with_reducible refine ⟨pk2, ?_⟩
    | with_reducible refine ⟨pk3, ?_⟩
    | with_reducible refine ⟨pk4, ?_⟩
    | with_reducible refine ⟨pk5, ?_⟩
    | with_reducible refine ⟨pk6, ?_⟩
    | with_reducible refine ⟨trivial, ?_⟩
    | with_reducible refine ⟨fun _ => trivial, ?_⟩
    | with_reducible refine fork_t (by assumption) ?_
    | with_reducible refine fork_f (by assumption) ?_
    | refine fork_t rfl ?_
    | refine fork_f rfl ?_
    | with_reducible refine fork_i (fun h => ?_) (fun h => ?_)
    | with_reducible refine both_i ?_ ?_
    | ((with_reducible refine alike_i ?_); exact ⟨rfl, rfl, rfl⟩)
    | ((with_reducible refine fin_i ?_); (conv => whnf); refine ⟨rfl, ?_⟩)
    | refine ⟨of_decide_eq_true rfl, ?_⟩
    | refine ⟨fun _ => of_decide_eq_true rfl, ?_⟩
    | ((with_reducible refine ⟨?_, ?_⟩); (focus (intros; simp_all; done)))
    | ((with_reducible refine ⟨?_, ?_⟩); (focus (intros; omega)))) <;> (try (conv => whnf)))
  · all_goals ((with_reducible refine leaf_i ?_); (conv => whnf))
    repeat' ((with_reducible refine And.intro ?_ ?_) <;> (try (conv => whnf)))
    all_goals (try (first | with_reducible rfl | exact True.intro | rfl | exact id | exact fun h => h | exact fun _ => rfl))
  · rw [Bool.cond_true_left, Bool.or_eq_false_iff] at h
    obtain ⟨hf, hl, hx⟩ := fit_ins (not_f h.1) (by decide)
    have hbl : ¬ (b.length : Int) > 1000 := of_decide_eq_false h.2
    refine ⟨hf, ?_⟩
    (conv => whnf)
    conv => whnf
    repeat' ((first
      | with_reducible refine ⟨fun h => h, ?_⟩
      | with_reducible refine ⟨pk1, ?_⟩
      | with_reducible refine ⟨pk2, ?_⟩
      | with_reducible refine ⟨pk3, ?_⟩
      | with_reducible refine ⟨pk4, ?_⟩
      | with_reducible refine ⟨pk5, ?_⟩
      | with_reducible refine ⟨pk6, ?_⟩
      | with_reducible refine ⟨trivial, ?_⟩
      | with_reducible refine ⟨fun _ => trivial, ?_⟩
      | with_reducible refine fork_t (by assumption) ?_
      | with_reducible refine fork_f (by assumption) ?_
      | refine fork_t rfl ?_
      | refine fork_f rfl ?_
      | with_reducible refine fork_i (fun h => ?_) (fun h => ?_)
      | with_reducible refine both_i ?_ ?_
      | ((with_reducible refine alike_i ?_); exact ⟨rfl, rfl, rfl⟩)
      | ((with_reducible refine fin_i ?_); (conv => whnf); refine ⟨rfl, ?_⟩)
      | refine ⟨of_decide_eq_true rfl, ?_⟩
      | refine ⟨fun _ => of_decide_eq_true rfl, ?_⟩
      | ((with_reducible refine ⟨?_, ?_⟩); (focus (intros; simp_all; done)))
      | ((with_reducible refine ⟨?_, ?_⟩); (focus (intros; omega)))) <;> (try (conv => whnf)))
    · have e0 : (putG g).2 = 0 := beq_t h
      have hp : putG g = ((putG g).1, 0) := by rw [← e0]
      have hlen : (putG g).1.length ≤ 1000 := by
        obtain ⟨q1, q2, q3⟩ := put_ok hp
        have := flat_len (fun n hn => List.all_eq_true.1 q2 n hn) g.length (Nat.le_refl _)
        rw [List.take_length] at this
        rw [q3, List.length_cons]; omega
      have hpos : 0 < (putG g).1.length := by
        obtain ⟨q1, q2, q3⟩ := put_ok hp
        rw [q3]; simp
      have hk := pick_lt (i := cut) (n := ((putG g).1.length : Int)) (by omega) (by omega)
      have hga : getG (putG g).1 = (g, 0) := by rw [getG_eq (putG_isB hO), get_put hO hp]; rfl
      have hgc : getG ((putG g).1.take (pick cut (putG g).1.length).toNat) = ([], 90) := by
        rw [getG_eq ((putG_isB hO).take _), get_cut hO hp (by omega)]; rfl
      have h1 := putG_isB hO
      have h2 := h1.take (pick cut (putG g).1.length).toNat
      have h3 : ((putG g).1.take (pick cut (putG g).1.length).toNat).length < 4611686018427387904 := by rw [List.length_take]; omega
      clear hp e0
      refine ⟨⟨h1, by omega⟩, ?_⟩
      (conv => whnf)
      refine ⟨trivial, ?_⟩
      (conv => whnf)
      refine ⟨⟨by decide, by exact hk.1, by omega⟩, ?_⟩
      (conv => whnf)
      refine ⟨⟨h2, h3⟩, ?_⟩
      (conv => whnf)
      conv => whnf
      repeat' ((first
        | with_reducible refine both_i ?_ ?_
        | ((with_reducible refine alike_i ?_); exact ⟨rfl, rfl, rfl⟩)
        | with_reducible refine ⟨fun h => h, ?_⟩
        | with_reducible refine ⟨pk1, ?_⟩
        | with_reducible refine ⟨pk2, ?_⟩
        | with_reducible refine ⟨pk3, ?_⟩
        | with_reducible refine ⟨pk4, ?_⟩
        | with_reducible refine ⟨pk5, ?_⟩
        | with_reducible refine ⟨pk6, ?_⟩
        | with_reducible refine ⟨trivial, ?_⟩
        | with_reducible refine ⟨fun _ => trivial, ?_⟩
        | refine ⟨fun _ => hf, ?_⟩
        | refine ⟨of_decide_eq_true rfl, ?_⟩
        | refine ⟨fun _ => of_decide_eq_true rfl, ?_⟩
        | ((with_reducible refine ⟨?_, ?_⟩); (focus (intros; simp_all; done)))
        | ((with_reducible refine ⟨?_, ?_⟩); (focus (intros; omega)))) <;> (try (conv => whnf)))
      refine fork_i (fun h => ?_) (fun h => ?_)
      · exfalso
        have h : (bif bif ((getG (putG g).1).2 != 0) then true else !eqG g (getG (putG g).1).1 then true else ((getG ((putG g).1.take (pick cut (putG g).1.length).toNat)).2 != 90)) = true := h
        rw [hga, hgc, (eqG_iff _ _).2 rfl] at h
        simp at h
      · clear h
        have hbr := getG_eq hB
        (conv => whnf)
        refine ⟨⟨hB, by omega⟩, ?_⟩
        (conv => whnf)
        refine fork_i (fun h => ?_) (fun h => ?_)
        · have h : ((getG b).2 != 0) = true := h
          have hz : (getG b).1 = [] := by
            rw [hbr] at h ⊢
            cases hc : getC b with
            | none => rfl
            | some q => rw [hc] at h; simp [outG] at h
          clear hbr
          (conv => whnf)
          conv => whnf
          repeat' ((first
            | with_reducible refine ⟨fun h => h, ?_⟩
            | with_reducible refine ⟨pk1, ?_⟩
            | with_reducible refine ⟨pk2, ?_⟩
            | with_reducible refine ⟨pk3, ?_⟩
            | with_reducible refine ⟨pk4, ?_⟩
            | with_reducible refine ⟨pk5, ?_⟩
            | with_reducible refine ⟨pk6, ?_⟩
            | with_reducible refine ⟨trivial, ?_⟩
            | with_reducible refine ⟨fun _ => trivial, ?_⟩
            | with_reducible refine fork_t (by assumption) ?_
            | with_reducible refine fork_f (by assumption) ?_
            | refine fork_t rfl ?_
            | refine fork_f rfl ?_
            | with_reducible refine fork_i (fun h => ?_) (fun h => ?_)
            | with_reducible refine both_i ?_ ?_
            | ((with_reducible refine alike_i ?_); exact ⟨rfl, rfl, rfl⟩)
            | ((with_reducible refine fin_i ?_); (conv => whnf); refine ⟨rfl, ?_⟩)
            | refine ⟨of_decide_eq_true rfl, ?_⟩
            | refine ⟨fun _ => of_decide_eq_true rfl, ?_⟩
            | ((with_reducible refine ⟨?_, ?_⟩); (focus (intros; simp_all; done)))
            | ((with_reducible refine ⟨?_, ?_⟩); (focus (intros; omega)))) <;> (try (conv => whnf)))
          all_goals ((with_reducible refine leaf_i ?_); (conv => whnf))
          repeat' ((with_reducible refine And.intro ?_ ?_) <;> (try (conv => whnf)))
          all_goals (try (first | with_reducible rfl | exact True.intro | rfl | exact id | exact fun h => h | exact fun _ => rfl))
          all_goals (rw [hz]; rfl)
        · have h : ((getG b).2 != 0) = false := h
          obtain ⟨q, hc⟩ : ∃ q, getC b = some q := by
            cases hc : getC b with
            | none => rw [hbr, hc] at h; simp [outG] at h
            | some q => exact ⟨q, rfl⟩
          have hgb : getG b = (q, 0) := by rw [hbr, hc]; rfl
          have hpq := (put_get hB hc).1
          have hfq : fitG (getG b).1 := by rw [hbr]; exact out_fit hB
          clear hbr
          (conv => whnf)
          refine ⟨hfq, ?_⟩
          (conv => whnf)
          conv => whnf
          repeat' ((first
            | with_reducible refine ⟨fun h => h, ?_⟩
            | with_reducible refine ⟨pk1, ?_⟩
            | with_reducible refine ⟨pk2, ?_⟩
            | with_reducible refine ⟨pk3, ?_⟩
            | with_reducible refine ⟨pk4, ?_⟩
            | with_reducible refine ⟨pk5, ?_⟩
            | with_reducible refine ⟨pk6, ?_⟩
            | with_reducible refine ⟨trivial, ?_⟩
            | with_reducible refine ⟨fun _ => trivial, ?_⟩
            | with_reducible refine fork_t (by assumption) ?_
            | with_reducible refine fork_f (by assumption) ?_
            | refine fork_t rfl ?_
            | refine fork_f rfl ?_
            | with_reducible refine fork_i (fun h => ?_) (fun h => ?_)
            | with_reducible refine both_i ?_ ?_
            | ((with_reducible refine alike_i ?_); exact ⟨rfl, rfl, rfl⟩)
            | ((with_reducible refine fin_i ?_); (conv => whnf); refine ⟨rfl, ?_⟩)
            | refine ⟨of_decide_eq_true rfl, ?_⟩
            | refine ⟨fun _ => of_decide_eq_true rfl, ?_⟩
            | ((with_reducible refine ⟨?_, ?_⟩); (focus (intros; simp_all; done)))
            | ((with_reducible refine ⟨?_, ?_⟩); (focus (intros; omega)))) <;> (try (conv => whnf)))
          all_goals ((with_reducible refine leaf_i ?_); (conv => whnf))
          repeat' ((with_reducible refine And.intro ?_ ?_) <;> (try (conv => whnf)))
          all_goals (try (first | with_reducible rfl | exact True.intro | rfl | exact id | exact fun h => h | exact fun _ => rfl))
          all_goals (rw [hgb, hpq, sameU_refl]; rfl)
    · clear h
      have hbr := getG_eq hB
      (conv => whnf)
      refine ⟨⟨hB, by omega⟩, ?_⟩
      (conv => whnf)
      refine fork_i (fun h => ?_) (fun h => ?_)
      · have h : ((getG b).2 != 0) = true := h
        have hz : (getG b).1 = [] := by
          rw [hbr] at h ⊢
          cases hc : getC b with
          | none => rfl
          | some q => rw [hc] at h; simp [outG] at h
        clear hbr
        (conv => whnf)
        conv => whnf
        repeat' ((first
          | with_reducible refine ⟨fun h => h, ?_⟩
          | with_reducible refine ⟨pk1, ?_⟩
          | with_reducible refine ⟨pk2, ?_⟩
          | with_reducible refine ⟨pk3, ?_⟩
          | with_reducible refine ⟨pk4, ?_⟩
          | with_reducible refine ⟨pk5, ?_⟩
          | with_reducible refine ⟨pk6, ?_⟩
          | with_reducible refine ⟨trivial, ?_⟩
          | with_reducible refine ⟨fun _ => trivial, ?_⟩
          | with_reducible refine fork_t (by assumption) ?_
          | with_reducible refine fork_f (by assumption) ?_
          | refine fork_t rfl ?_
          | refine fork_f rfl ?_
          | with_reducible refine fork_i (fun h => ?_) (fun h => ?_)
          | with_reducible refine both_i ?_ ?_
          | ((with_reducible refine alike_i ?_); exact ⟨rfl, rfl, rfl⟩)
          | ((with_reducible refine fin_i ?_); (conv => whnf); refine ⟨rfl, ?_⟩)
          | refine ⟨of_decide_eq_true rfl, ?_⟩
          | refine ⟨fun _ => of_decide_eq_true rfl, ?_⟩
          | ((with_reducible refine ⟨?_, ?_⟩); (focus (intros; simp_all; done)))
          | ((with_reducible refine ⟨?_, ?_⟩); (focus (intros; omega)))) <;> (try (conv => whnf)))
        all_goals ((with_reducible refine leaf_i ?_); (conv => whnf))
        repeat' ((with_reducible refine And.intro ?_ ?_) <;> (try (conv => whnf)))
        all_goals (try (first | with_reducible rfl | exact True.intro | rfl | exact id | exact fun h => h | exact fun _ => rfl))
        all_goals (rw [hz]; rfl)
      · have h : ((getG b).2 != 0) = false := h
        obtain ⟨q, hc⟩ : ∃ q, getC b = some q := by
          cases hc : getC b with
          | none => rw [hbr, hc] at h; simp [outG] at h
          | some q => exact ⟨q, rfl⟩
        have hgb : getG b = (q, 0) := by rw [hbr, hc]; rfl
        have hpq := (put_get hB hc).1
        have hfq : fitG (getG b).1 := by rw [hbr]; exact out_fit hB
        clear hbr
        (conv => whnf)
        refine ⟨hfq, ?_⟩
        (conv => whnf)
        conv => whnf
        repeat' ((first
          | with_reducible refine ⟨fun h => h, ?_⟩
          | with_reducible refine ⟨pk1, ?_⟩
          | with_reducible refine ⟨pk2, ?_⟩
          | with_reducible refine ⟨pk3, ?_⟩
          | with_reducible refine ⟨pk4, ?_⟩
          | with_reducible refine ⟨pk5, ?_⟩
          | with_reducible refine ⟨pk6, ?_⟩
          | with_reducible refine ⟨trivial, ?_⟩
          | with_reducible refine ⟨fun _ => trivial, ?_⟩
          | with_reducible refine fork_t (by assumption) ?_
          | with_reducible refine fork_f (by assumption) ?_
          | refine fork_t rfl ?_
          | refine fork_f rfl ?_
          | with_reducible refine fork_i (fun h => ?_) (fun h => ?_)
          | with_reducible refine both_i ?_ ?_
          | ((with_reducible refine alike_i ?_); exact ⟨rfl, rfl, rfl⟩)
          | ((with_reducible refine fin_i ?_); (conv => whnf); refine ⟨rfl, ?_⟩)
          | refine ⟨of_decide_eq_true rfl, ?_⟩
          | refine ⟨fun _ => of_decide_eq_true rfl, ?_⟩
          | ((with_reducible refine ⟨?_, ?_⟩); (focus (intros; simp_all; done)))
          | ((with_reducible refine ⟨?_, ?_⟩); (focus (intros; omega)))) <;> (try (conv => whnf)))
        all_goals ((with_reducible refine leaf_i ?_); (conv => whnf))
        repeat' ((with_reducible refine And.intro ?_ ?_) <;> (try (conv => whnf)))
        all_goals (try (first | with_reducible rfl | exact True.intro | rfl | exact id | exact fun h => h | exact fun _ => rfl))
        all_goals (rw [hgb, hpq, sameU_refl]; rfl)
end Go.Proofs.Ytjikhbdpkddbgaa
