/- The document's Get of layer 9. -/
import Derived.Test.YtjikhbdpkddbgaaC09G
import Derived.Test.YtjikhbdpkddbgaaP09G
namespace Go.Proofs.Ytjikhbdpkddbgaa
set_option linter.unusedVariables false
set_option linter.unusedSimpArgs false
open Go Go.RowKit Go.Proofs.Ytjikhbdpkddbgaa.Eng

def k_rget : Sig := .arg (shR tU) fun b => .done { pre := isB b ∧ b.length ≤ 1000000, res := .tup (.cons (.rl true tN (refG b).1) (.cons (I (refG b).2) .nil)) }
theorem cs_rget : AllFn Try.prog [(28, k_rmay.con)] := ⟨c_rmay, trivial⟩

set_option maxRecDepth 100000 in
set_option maxHeartbeats 8000000 in
theorem c_rget : FnOk Try.prog 19 k_rget.con := by
  refine fnOkS mixed tys_ok (cs := [(28, k_rmay.con)]) cs_rget Try.func19 rfl (by kernel_rfl) Try.ntmps19 _ (h := ?_)
  intro b
  refine ⟨rfl, fun hp => ?_⟩
  obtain ⟨hB, hp1⟩ := hp
  conv => whnf
  repeat' ((first
    | with_reducible refine ⟨fun h => h, ?_⟩
    | with_reducible refine ⟨pk1, ?_⟩
    | with_reducible refine ⟨pk2, ?_⟩
    | with_reducible refine ⟨pk3, ?_⟩
    | with_reducible refine ⟨pk4, ?_⟩
    | with_reducible refine ⟨pk5, ?_⟩
    | with_reducible refine ⟨pk6, ?_⟩
    | with_reducible refine ⟨trivial, ?_⟩
    | with_reducible refine ⟨fun _ => trivial, ?_⟩
    | with_reducible refine fork_t (by assumption) ?_
    | with_reducible refine fork_f (by assumption) ?_
    | refine fork_t rfl ?_
    | refine fork_f rfl ?_
    | with_reducible refine fork_i (fun h => ?_) (fun h => ?_)
    | with_reducible refine both_i ?_ ?_
    | ((with_reducible refine alike_i ?_); exact ⟨rfl, rfl, rfl⟩)
    | ((with_reducible refine fin_i ?_); (conv => whnf); refine ⟨rfl, ?_⟩)
    | refine ⟨of_decide_eq_true rfl, ?_⟩
    | refine ⟨fun _ => of_decide_eq_true rfl, ?_⟩
    | ((with_reducible refine ⟨?_, ?_⟩); (focus (intros; simp_all; done)))
    | ((with_reducible refine ⟨?_, ?_⟩); (focus (intros; omega)))) <;> (try (conv => whnf)))
  · have h1 := of_decide_eq_true h
    have hG : refG b = ([], 90) := by unfold refG; rw [if_pos (by omega)]
    all_goals ((with_reducible refine leaf_i ?_); (conv => whnf))
    repeat' ((with_reducible refine And.intro ?_ ?_) <;> (try (conv => whnf)))
    all_goals (try (first | with_reducible rfl | exact True.intro | rfl | exact id | exact fun h => h | exact fun _ => rfl))
    all_goals (rw [hG])
  · have h1 := of_decide_eq_false h
    have h0 : 0 < b.length := by omega
    obtain ⟨m, hm⟩ : ∃ m : Nat, (getE tU b 0).1 = m := ⟨(getE tU b 0).1.toNat, by have := hB.get h0; omega⟩
    have hm2 : m ≤ 255 := by have := hB.get h0; omega
    have hwm : IntKind.i64.wrap (getE tU b 0).1 = m := by rw [hm, IntKind.wrap_i64]; omega
    have hG : refG b = match refL m (b.drop 1) [] with
        | none => ([], 90)
        | some (g, r) => if r = [] ∧ mayG g = true then (g, 0) else ([], 90) := by
      unfold refG; rw [if_neg (by omega), hm]; rfl
    refine only [0] ?_
    (conv => whnf)
    refine looped (σ := Nat × Nat × List (El tN)) (fun x => [(6, I x.1), (5, I x.2.1), (4, .ow 0 5 x.2.2.length)]) (fun x => [.row true tN 48 x.2.2]) (fun x => x.1 ≤ m ∧ x.2.1 ≤ b.length ∧ x.2.2.length = x.1 ∧ (∀ n ∈ x.2.2, (Nd.ins n).length ≤ 255) ∧ refL (m - x.1) (b.drop x.2.1) x.2.2 = refL m (b.drop 1) []) (fun x => m - x.1) (0, 1, []) ⟨Nat.zero_le _, (by dsimp only; omega), rfl, fun n hn => (by cases hn), rfl⟩ ?_ ?_
    · conv => whnf
      refine ⟨rfl, leaf_i ?_⟩
      repeat' ((with_reducible refine And.intro ?_ ?_) <;> (try (conv => whnf)))
      all_goals (try (first | with_reducible rfl | exact True.intro | rfl | exact id | exact fun h => h | exact fun _ => rfl))
    · rintro ⟨i, at', g⟩ ⟨hi, ha, hg, hn, hl⟩
      dsimp only at hi ha hg hn hl ⊢
      have w12 : IntKind.i64.wrap ((at' : Int) + 12) = ((at' + 12 : Nat) : Int) := by rw [IntKind.wrap_i64]; omega
      have w11 : IntKind.i64.wrap ((at' : Int) + 11) = ((at' + 11 : Nat) : Int) := by rw [IntKind.wrap_i64]; omega
      have w10 : IntKind.i64.wrap ((at' : Int) + 10) = ((at' + 10 : Nat) : Int) := by rw [IntKind.wrap_i64]; omega
      have w1 : IntKind.i64.wrap ((at' : Int) + 1) = ((at' + 1 : Nat) : Int) := by rw [IntKind.wrap_i64]; omega
      have w2 : IntKind.i64.wrap ((at' : Int) + 2) = ((at' + 2 : Nat) : Int) := by rw [IntKind.wrap_i64]; omega
      refine ⟨⟨by decide, by omega⟩, ?_⟩
      (conv => whnf)
      conv => whnf
      repeat' ((first
        | with_reducible refine ⟨fun h => h, ?_⟩
        | with_reducible refine ⟨pk1, ?_⟩
        | with_reducible refine ⟨pk2, ?_⟩
        | with_reducible refine ⟨pk3, ?_⟩
        | with_reducible refine ⟨pk4, ?_⟩
        | with_reducible refine ⟨pk5, ?_⟩
        | with_reducible refine ⟨pk6, ?_⟩
        | with_reducible refine ⟨trivial, ?_⟩
        | with_reducible refine ⟨fun _ => trivial, ?_⟩
        | with_reducible refine fork_t (by assumption) ?_
        | with_reducible refine fork_f (by assumption) ?_
        | refine fork_t rfl ?_
        | refine fork_f rfl ?_
        | with_reducible refine fork_i (fun h => ?_) (fun h => ?_)
        | with_reducible refine both_i ?_ ?_
        | ((with_reducible refine alike_i ?_); exact ⟨rfl, rfl, rfl⟩)
        | ((with_reducible refine fin_i ?_); (conv => whnf); refine ⟨rfl, ?_⟩)
        | refine ⟨of_decide_eq_true rfl, ?_⟩
        | refine ⟨fun _ => of_decide_eq_true rfl, ?_⟩
        | ((with_reducible refine ⟨?_, ?_⟩); (focus (intros; simp_all; done)))
        | ((with_reducible refine ⟨?_, ?_⟩); (focus (intros; omega)))) <;> (try (conv => whnf)))
      · have hi' : i < m := by
          have h := of_decide_eq_true h
          have h : (i : Int) < IntKind.i64.wrap (getE tU b 0).1 := h
          rw [hwm] at h; omega
        refine ⟨fun hh => ?_, ?_⟩
        · have hh := of_decide_eq_false (eq_of_beq hh)
          rw [w12] at hh; rw [w11]; omega
        (conv => whnf)
        conv => whnf
        repeat' ((first
          | with_reducible refine ⟨fun h => h, ?_⟩
          | with_reducible refine ⟨pk1, ?_⟩
          | with_reducible refine ⟨pk2, ?_⟩
          | with_reducible refine ⟨pk3, ?_⟩
          | with_reducible refine ⟨pk4, ?_⟩
          | with_reducible refine ⟨pk5, ?_⟩
          | with_reducible refine ⟨pk6, ?_⟩
          | with_reducible refine ⟨trivial, ?_⟩
          | with_reducible refine ⟨fun _ => trivial, ?_⟩
          | with_reducible refine fork_t (by assumption) ?_
          | with_reducible refine fork_f (by assumption) ?_
          | refine fork_t rfl ?_
          | refine fork_f rfl ?_
          | with_reducible refine fork_i (fun h => ?_) (fun h => ?_)
          | with_reducible refine both_i ?_ ?_
          | ((with_reducible refine alike_i ?_); exact ⟨rfl, rfl, rfl⟩)
          | ((with_reducible refine fin_i ?_); (conv => whnf); refine ⟨rfl, ?_⟩)
          | refine ⟨of_decide_eq_true rfl, ?_⟩
          | refine ⟨fun _ => of_decide_eq_true rfl, ?_⟩
          | ((with_reducible refine ⟨?_, ?_⟩); (focus (intros; simp_all; done)))
          | ((with_reducible refine ⟨?_, ?_⟩); (focus (intros; omega)))) <;> (try (conv => whnf)))
        · have hf : refL (m - i) (b.drop at') g = none := by
            rw [show m - i = (m - i - 1) + 1 by omega, refL, nodeP_at]
            by_cases h12 : b.length < at' + 12
            · rw [if_pos h12]
            · have h11 := hB.get (j := at' + 11) (by omega)
              rw [if_neg h12]
              rw [w11, w12, Int.toNat_natCast, Bool.cond_true_left, Bool.or_eq_true, decide_eq_true_iff, decide_eq_true_iff] at h
              have hw : IntKind.i64.wrap (getE tU b (at' + 11)).1 = (getE tU b (at' + 11)).1 := by rw [IntKind.wrap_i64]; omega
              rw [hw] at h
              have hs : IntKind.i64.wrap (((at' + 12 : Nat) : Int) + (getE tU b (at' + 11)).1) = ((at' + 12 : Nat) : Int) + (getE tU b (at' + 11)).1 := by rw [IntKind.wrap_i64]; omega
              rw [hs] at h
              rw [if_pos (by omega)]
          have hG' : refG b = ([], 90) := by rw [hG, ← hl, hf]
          all_goals ((with_reducible refine leaf_i ?_); (conv => whnf))
          repeat' ((with_reducible refine And.intro ?_ ?_) <;> (try (conv => whnf)))
          all_goals (try (first | with_reducible rfl | exact True.intro | rfl | exact id | exact fun h => h | exact fun _ => rfl))
          all_goals (rw [hG'])
        · rw [w11, w12, Int.toNat_natCast, Bool.cond_true_left, Bool.or_eq_false_iff, decide_eq_false_iff_not, decide_eq_false_iff_not] at h
          obtain ⟨hc1, hc2⟩ := h
          have h11 := hB.get (j := at' + 11) (by omega)
          obtain ⟨k, hk⟩ : ∃ k : Nat, (getE tU b (at' + 11)).1 = k := ⟨(getE tU b (at' + 11)).1.toNat, by omega⟩
          have hk255 : k ≤ 255 := by omega
          have wk : IntKind.i64.wrap (getE tU b (at' + 11)).1 = k := by rw [IntKind.wrap_i64]; omega
          have hend : at' + 12 + k ≤ b.length := by
            rw [wk, IntKind.wrap_i64] at hc2; omega
          have hN : nodeP (b.drop at') = some (((getE tU b at').1, (getE tU b (at' + 1)).1, IntKind.i64.wrap (be 0 ((b.drop (at' + 2)).take 8)), (getE tU b (at' + 10)).1, insP ((b.drop (at' + 12)).take k), ()), b.drop (at' + 12 + k)) := by
            rw [nodeP_at, if_neg (by omega), hk, Int.toNat_natCast, if_neg (by omega)]
          clear hc1 hc2
          conv => whnf
          repeat' ((first
            | with_reducible refine ⟨fun h => h, ?_⟩
            | with_reducible refine ⟨pk1, ?_⟩
            | with_reducible refine ⟨pk2, ?_⟩
            | with_reducible refine ⟨pk3, ?_⟩
            | with_reducible refine ⟨pk4, ?_⟩
            | with_reducible refine ⟨pk5, ?_⟩
            | with_reducible refine ⟨pk6, ?_⟩
            | with_reducible refine ⟨trivial, ?_⟩
            | with_reducible refine ⟨fun _ => trivial, ?_⟩
            | with_reducible refine fork_t (by assumption) ?_
            | with_reducible refine fork_f (by assumption) ?_
            | refine fork_t rfl ?_
            | refine fork_f rfl ?_
            | with_reducible refine fork_i (fun h => ?_) (fun h => ?_)
            | with_reducible refine both_i ?_ ?_
            | ((with_reducible refine alike_i ?_); exact ⟨rfl, rfl, rfl⟩)
            | ((with_reducible refine fin_i ?_); (conv => whnf); refine ⟨rfl, ?_⟩)
            | refine ⟨of_decide_eq_true rfl, ?_⟩
            | refine ⟨fun _ => of_decide_eq_true rfl, ?_⟩
            | ((with_reducible refine ⟨?_, ?_⟩); (focus (intros; simp_all; done)))
            | ((with_reducible refine ⟨?_, ?_⟩); (focus (intros; omega)))) <;> (try (conv => whnf)))
          have h10 := hB.get (j := at' + 10) (by omega)
          have wi : IntKind.i64.wrap (getE tU b (at' + 10)).1 = (getE tU b (at' + 10)).1 := by rw [IntKind.wrap_i64]; omega
          refine only [0, 4, 5, 6, 7] ?_
          (conv => whnf)
          refine looped (σ := Nat × Int) (fun x => [(9, I x.1), (8, .v (.int .u64 x.2))]) (fun x => [.row true tN 48 g, .cells (.cons (.v (.int .u8 (getE tU b at').1)) (.cons (.v (.int .u8 (getE tU b (at' + 1)).1)) (.cons (.v (.int .i64 0)) (.cons (.v (.int .i64 (getE tU b (at' + 10)).1)) (.cons (.v (.slice none 0 0)) .nil)))))]) (fun x => x.1 ≤ 8 ∧ beU x.2 (((b.drop (at' + 2)).take 8).drop x.1) = beU 0 ((b.drop (at' + 2)).take 8)) (fun x => 8 - x.1) (0, 0) ⟨by decide, rfl⟩ ?_ ?_
          · conv => whnf
            refine ⟨rfl, leaf_i ?_⟩
            repeat' ((with_reducible refine And.intro ?_ ?_) <;> (try (conv => whnf)))
            all_goals (try (first | with_reducible rfl | exact True.intro | rfl | exact id | exact fun h => h | exact fun _ => rfl))
            all_goals (simp only [w1, w10, Int.toNat_natCast, wi])
          · rintro ⟨c, x⟩ ⟨hc, hx⟩
            dsimp only at hc hx ⊢
            have wc : IntKind.i64.wrap (((at' + 2 : Nat) : Int) + c) = ((at' + 2 + c : Nat) : Int) := by rw [IntKind.wrap_i64]; omega
            conv => whnf
            repeat' ((first
              | with_reducible refine ⟨fun h => h, ?_⟩
              | with_reducible refine ⟨pk1, ?_⟩
              | with_reducible refine ⟨pk2, ?_⟩
              | with_reducible refine ⟨pk3, ?_⟩
              | with_reducible refine ⟨pk4, ?_⟩
              | with_reducible refine ⟨pk5, ?_⟩
              | with_reducible refine ⟨pk6, ?_⟩
              | with_reducible refine ⟨trivial, ?_⟩
              | with_reducible refine ⟨fun _ => trivial, ?_⟩
              | with_reducible refine fork_t (by assumption) ?_
              | with_reducible refine fork_f (by assumption) ?_
              | refine fork_t rfl ?_
              | refine fork_f rfl ?_
              | with_reducible refine fork_i (fun h => ?_) (fun h => ?_)
              | with_reducible refine both_i ?_ ?_
              | ((with_reducible refine alike_i ?_); exact ⟨rfl, rfl, rfl⟩)
              | ((with_reducible refine fin_i ?_); (conv => whnf); refine ⟨rfl, ?_⟩)
              | refine ⟨of_decide_eq_true rfl, ?_⟩
              | refine ⟨fun _ => of_decide_eq_true rfl, ?_⟩
              | ((with_reducible refine ⟨?_, ?_⟩); (focus (intros; simp_all; done)))
              | ((with_reducible refine ⟨?_, ?_⟩); (focus (intros; omega)))) <;> (try (conv => whnf)))
            · have hc' : c < 8 := by have := of_decide_eq_true h; omega
              refine ⟨by rw [w2, wc]; omega, ?_⟩
              (conv => whnf)
              conv => whnf
              repeat' ((first
                | with_reducible refine ⟨fun h => h, ?_⟩
                | with_reducible refine ⟨pk1, ?_⟩
                | with_reducible refine ⟨pk2, ?_⟩
                | with_reducible refine ⟨pk3, ?_⟩
                | with_reducible refine ⟨pk4, ?_⟩
                | with_reducible refine ⟨pk5, ?_⟩
                | with_reducible refine ⟨pk6, ?_⟩
                | with_reducible refine ⟨trivial, ?_⟩
                | with_reducible refine ⟨fun _ => trivial, ?_⟩
                | with_reducible refine fork_t (by assumption) ?_
                | with_reducible refine fork_f (by assumption) ?_
                | refine fork_t rfl ?_
                | refine fork_f rfl ?_
                | with_reducible refine fork_i (fun h => ?_) (fun h => ?_)
                | with_reducible refine both_i ?_ ?_
                | ((with_reducible refine alike_i ?_); exact ⟨rfl, rfl, rfl⟩)
                | ((with_reducible refine fin_i ?_); (conv => whnf); refine ⟨rfl, ?_⟩)
                | refine ⟨of_decide_eq_true rfl, ?_⟩
                | refine ⟨fun _ => of_decide_eq_true rfl, ?_⟩
                | ((with_reducible refine ⟨?_, ?_⟩); (focus (intros; simp_all; done)))
                | ((with_reducible refine ⟨?_, ?_⟩); (focus (intros; omega)))) <;> (try (conv => whnf)))
              rw [drop_get _ (by simp; omega), beU] at hx
              refine next_i (c + 1, stepU x (getE tU ((b.drop (at' + 2)).take 8) c).1) ⟨hc', hx⟩ (by dsimp only; omega) rfl rfl ?_
              conv => whnf
              refine ⟨rfl, leaf_i ?_⟩
              repeat' ((with_reducible refine And.intro ?_ ?_) <;> (try (conv => whnf)))
              all_goals (try (first | with_reducible rfl | exact True.intro | rfl | exact id | exact fun h => h | exact fun _ => rfl))
              all_goals first | (exact wrapS (by omega)) | (rw [w2, wc, Int.toNat_natCast, getE_take _ hc', getE_drop]; rfl) | trace_state
            · have hc' : c = 8 := by have := of_decide_eq_false h; omega
              subst hc'
              rw [List.drop_eq_nil_of_le (by simp; omega), beU] at hx
              have hxx : IntKind.i64.wrap x = IntKind.i64.wrap (be 0 ((b.drop (at' + 2)).take 8)) := by rw [hx, beU_i64]
              refine only [0, 4, 5, 6, 7] ?_
              (conv => whnf)
              refine looped (σ := Nat × List (El tI)) (fun x => [(10, I x.1)]) (fun x => [.row true tN 48 g, .cells (.cons (.v (.int .u8 (getE tU b at').1)) (.cons (.v (.int .u8 (getE tU b (at' + 1)).1)) (.cons (.v (.int .i64 (IntKind.i64.wrap (be 0 ((b.drop (at' + 2)).take 8))))) (.cons (.v (.int .i64 (getE tU b (at' + 10)).1)) (.cons (.ow 2 1 x.2.length) .nil))))), .row true tI 3 x.2]) (fun x => x.1 ≤ k ∧ x.2 = insP ((b.drop (at' + 12)).take x.1)) (fun x => k - x.1) (0, []) ⟨Nat.zero_le _, rfl⟩ ?_ ?_
              · conv => whnf
                refine ⟨rfl, leaf_i ?_⟩
                repeat' ((with_reducible refine And.intro ?_ ?_) <;> (try (conv => whnf)))
                all_goals (try (first | with_reducible rfl | exact True.intro | rfl | exact id | exact fun h => h | exact fun _ => rfl))
                all_goals first | exact hxx | trace_state
              · rintro ⟨c, l⟩ ⟨hc, hlc⟩
                dsimp only at hc hlc ⊢
                have hll : l.length = c := by rw [hlc, insP, List.length_map, List.length_take, List.length_drop]; omega
                have wc : IntKind.i64.wrap (((at' + 12 : Nat) : Int) + c) = ((at' + 12 + c : Nat) : Int) := by rw [IntKind.wrap_i64]; omega
                refine ⟨by rw [w11]; omega, ?_⟩
                (conv => whnf)
                conv => whnf
                repeat' ((first
                  | with_reducible refine ⟨fun h => h, ?_⟩
                  | with_reducible refine ⟨pk1, ?_⟩
                  | with_reducible refine ⟨pk2, ?_⟩
                  | with_reducible refine ⟨pk3, ?_⟩
                  | with_reducible refine ⟨pk4, ?_⟩
                  | with_reducible refine ⟨pk5, ?_⟩
                  | with_reducible refine ⟨pk6, ?_⟩
                  | with_reducible refine ⟨trivial, ?_⟩
                  | with_reducible refine ⟨fun _ => trivial, ?_⟩
                  | with_reducible refine fork_t (by assumption) ?_
                  | with_reducible refine fork_f (by assumption) ?_
                  | refine fork_t rfl ?_
                  | refine fork_f rfl ?_
                  | with_reducible refine fork_i (fun h => ?_) (fun h => ?_)
                  | with_reducible refine both_i ?_ ?_
                  | ((with_reducible refine alike_i ?_); exact ⟨rfl, rfl, rfl⟩)
                  | ((with_reducible refine fin_i ?_); (conv => whnf); refine ⟨rfl, ?_⟩)
                  | refine ⟨of_decide_eq_true rfl, ?_⟩
                  | refine ⟨fun _ => of_decide_eq_true rfl, ?_⟩
                  | ((with_reducible refine ⟨?_, ?_⟩); (focus (intros; simp_all; done)))
                  | ((with_reducible refine ⟨?_, ?_⟩); (focus (intros; omega)))) <;> (try (conv => whnf)))
                · have hc' : c < k := by
                    have h := of_decide_eq_true h
                    rw [w11, Int.toNat_natCast, wk] at h; omega
                  have hx := hB.get (j := at' + 12 + c) (by omega)
                  have wx : IntKind.i64.wrap (getE tU b (at' + 12 + c)).1 = (getE tU b (at' + 12 + c)).1 := by rw [IntKind.wrap_i64]; omega
                  refine ⟨by rw [w12, wc]; omega, ?_⟩
                  (conv => whnf)
                  conv => whnf
                  repeat' ((first
                    | with_reducible refine ⟨fun h => h, ?_⟩
                    | with_reducible refine ⟨pk1, ?_⟩
                    | with_reducible refine ⟨pk2, ?_⟩
                    | with_reducible refine ⟨pk3, ?_⟩
                    | with_reducible refine ⟨pk4, ?_⟩
                    | with_reducible refine ⟨pk5, ?_⟩
                    | with_reducible refine ⟨pk6, ?_⟩
                    | with_reducible refine ⟨trivial, ?_⟩
                    | with_reducible refine ⟨fun _ => trivial, ?_⟩
                    | with_reducible refine fork_t (by assumption) ?_
                    | with_reducible refine fork_f (by assumption) ?_
                    | refine fork_t rfl ?_
                    | refine fork_f rfl ?_
                    | with_reducible refine fork_i (fun h => ?_) (fun h => ?_)
                    | with_reducible refine both_i ?_ ?_
                    | ((with_reducible refine alike_i ?_); exact ⟨rfl, rfl, rfl⟩)
                    | ((with_reducible refine fin_i ?_); (conv => whnf); refine ⟨rfl, ?_⟩)
                    | ((with_reducible refine ⟨?_, ?_⟩); (focus (simp only [List.length_append, List.length_cons, List.length_nil]; omega)))
                    | refine ⟨of_decide_eq_true rfl, ?_⟩
                    | refine ⟨fun _ => of_decide_eq_true rfl, ?_⟩
                    | ((with_reducible refine ⟨?_, ?_⟩); (focus (intros; simp_all; done)))
                    | ((with_reducible refine ⟨?_, ?_⟩); (focus (intros; omega)))) <;> (try (conv => whnf)))
                  refine next_i (c + 1, l ++ [((getE tU b (at' + 12 + c)).1, ())]) ⟨hc', ?_⟩ (by dsimp only; omega) rfl rfl ?_
                  · dsimp only
                    rw [hlc, take_get _ (by simp; omega), insP, insP, List.map_append, getE_drop]; rfl
                  conv => whnf
                  refine ⟨rfl, leaf_i ?_⟩
                  repeat' ((with_reducible refine And.intro ?_ ?_) <;> (try (conv => whnf)))
                  all_goals (try (first | with_reducible rfl | exact True.intro | rfl | exact id | exact fun h => h | exact fun _ => rfl))
                  all_goals first | (exact wrapS (by omega)) | (rw [w12, wc, Int.toNat_natCast, wx]) | trace_state
                · have hc' : c = k := by
                    have h := of_decide_eq_false h
                    rw [w11, Int.toNat_natCast, wk] at h; omega
                  subst hc'
                  conv => whnf
                  repeat' ((first
                    | with_reducible refine ⟨fun h => h, ?_⟩
                    | with_reducible refine ⟨pk1, ?_⟩
                    | with_reducible refine ⟨pk2, ?_⟩
                    | with_reducible refine ⟨pk3, ?_⟩
                    | with_reducible refine ⟨pk4, ?_⟩
                    | with_reducible refine ⟨pk5, ?_⟩
                    | with_reducible refine ⟨pk6, ?_⟩
                    | with_reducible refine ⟨trivial, ?_⟩
                    | with_reducible refine ⟨fun _ => trivial, ?_⟩
                    | with_reducible refine fork_t (by assumption) ?_
                    | with_reducible refine fork_f (by assumption) ?_
                    | refine fork_t rfl ?_
                    | refine fork_f rfl ?_
                    | with_reducible refine fork_i (fun h => ?_) (fun h => ?_)
                    | with_reducible refine both_i ?_ ?_
                    | ((with_reducible refine alike_i ?_); exact ⟨rfl, rfl, rfl⟩)
                    | ((with_reducible refine fin_i ?_); (conv => whnf); refine ⟨rfl, ?_⟩)
                    | ((with_reducible refine ⟨?_, ?_⟩); (focus (simp only [List.length_append, List.length_cons, List.length_nil]; omega)))
                    | refine ⟨of_decide_eq_true rfl, ?_⟩
                    | refine ⟨fun _ => of_decide_eq_true rfl, ?_⟩
                    | ((with_reducible refine ⟨?_, ?_⟩); (focus (intros; simp_all; done)))
                    | ((with_reducible refine ⟨?_, ?_⟩); (focus (intros; omega)))) <;> (try (conv => whnf)))
                  refine next_i (i + 1, at' + 12 + c, g ++ [((getE tU b at').1, (getE tU b (at' + 1)).1, IntKind.i64.wrap (be 0 ((b.drop (at' + 2)).take 8)), (getE tU b (at' + 10)).1, l, ())]) ⟨hi', hend, by simp [hg], ?_, ?_⟩ (by dsimp only; omega) rfl rfl ?_
                  · intro n hm
                    rcases List.mem_append.1 hm with hm | hm
                    · exact hn n hm
                    · rw [List.mem_singleton.1 hm]
                      show l.length ≤ 255
                      omega
                  · dsimp only
                    rw [← hl, show m - i = (m - (i + 1)) + 1 by omega, refL, hN, hlc]
                  conv => whnf
                  refine ⟨rfl, leaf_i ?_⟩
                  repeat' ((with_reducible refine And.intro ?_ ?_) <;> (try (conv => whnf)))
                  all_goals (try (first | with_reducible rfl | exact True.intro | rfl | exact id | exact fun h => h | exact fun _ => rfl))
                  all_goals first | (exact wrapS (by omega)) | (rw [w11, w12, Int.toNat_natCast, wk, IntKind.wrap_i64]; (show _ = ((at' + 12 + c : Nat) : Int)); omega) | trace_state
      · have hi' : i = m := by
          have h := of_decide_eq_false h
          have h : ¬ (i : Int) < IntKind.i64.wrap (getE tU b 0).1 := h
          rw [hwm] at h; omega
        subst hi'
        have hfit : fitG g := ⟨by omega, fun x hx => Nat.lt_of_le_of_lt (hn x hx) (by decide)⟩
        refine ⟨fun _ => hfit, ?_⟩
        (conv => whnf)
        have hL : refL i (b.drop 1) [] = some (g, b.drop at') := by
          rw [← hl, Nat.sub_self]; rfl
        conv => whnf
        repeat' ((first
          | with_reducible refine ⟨fun h => h, ?_⟩
          | with_reducible refine ⟨pk1, ?_⟩
          | with_reducible refine ⟨pk2, ?_⟩
          | with_reducible refine ⟨pk3, ?_⟩
          | with_reducible refine ⟨pk4, ?_⟩
          | with_reducible refine ⟨pk5, ?_⟩
          | with_reducible refine ⟨pk6, ?_⟩
          | with_reducible refine ⟨trivial, ?_⟩
          | with_reducible refine ⟨fun _ => trivial, ?_⟩
          | with_reducible refine fork_t (by assumption) ?_
          | with_reducible refine fork_f (by assumption) ?_
          | refine fork_t rfl ?_
          | refine fork_f rfl ?_
          | with_reducible refine fork_i (fun h => ?_) (fun h => ?_)
          | with_reducible refine both_i ?_ ?_
          | ((with_reducible refine alike_i ?_); exact ⟨rfl, rfl, rfl⟩)
          | ((with_reducible refine fin_i ?_); (conv => whnf); refine ⟨rfl, ?_⟩)
          | refine ⟨of_decide_eq_true rfl, ?_⟩
          | refine ⟨fun _ => of_decide_eq_true rfl, ?_⟩
          | ((with_reducible refine ⟨?_, ?_⟩); (focus (intros; simp_all; done)))
          | ((with_reducible refine ⟨?_, ?_⟩); (focus (intros; omega)))) <;> (try (conv => whnf)))
        · have hG' : refG b = ([], 90) := by
            rw [hG, hL]
            refine if_neg fun hh => ?_
            have ha' : at' = b.length := by have := hh.1; simp at this; omega
            have h : (bif ((at' : Int) != (b.length : Int)) then true else !mayG g) = true := h
            rw [ha', hh.2] at h
            simp at h
          all_goals ((with_reducible refine leaf_i ?_); (conv => whnf))
          repeat' ((with_reducible refine And.intro ?_ ?_) <;> (try (conv => whnf)))
          all_goals (try (first | with_reducible rfl | exact True.intro | rfl | exact id | exact fun h => h | exact fun _ => rfl))
          all_goals (rw [hG'])
        · have hG' : refG b = (g, 0) := by
            rw [hG, hL]
            have h : (bif ((at' : Int) != (b.length : Int)) then true else !mayG g) = false := h
            rw [Bool.cond_true_left, Bool.or_eq_false_iff] at h
            have := bnl_f h.1
            exact if_pos ⟨List.drop_eq_nil_of_le (by omega), not_f h.2⟩
          all_goals ((with_reducible refine leaf_i ?_); (conv => whnf))
          repeat' ((with_reducible refine And.intro ?_ ?_) <;> (try (conv => whnf)))
          all_goals (try (first | with_reducible rfl | exact True.intro | rfl | exact id | exact fun h => h | exact fun _ => rfl))
          all_goals (rw [hG'])
end Go.Proofs.Ytjikhbdpkddbgaa
