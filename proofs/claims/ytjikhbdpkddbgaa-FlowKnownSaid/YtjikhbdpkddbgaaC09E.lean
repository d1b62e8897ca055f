/- Layer 9's functions: bytes as a graph (flow.Get). -/
import Derived.Test.YtjikhbdpkddbgaaC09D
namespace Go.Proofs.Ytjikhbdpkddbgaa
set_option linter.unusedVariables false
set_option linter.unusedSimpArgs false
open Go Go.RowKit Go.Proofs.Ytjikhbdpkddbgaa.Eng

def k_get : Sig := .arg (shR tU) fun b => .done { pre := isB b ∧ b.length < 4611686018427387904, res := .tup (.cons (.rl true tN (getG b).1) (.cons (I (getG b).2) .nil)) }

theorem takeB_lt {ok : Bool} {b : List (El tU)} {w : Int} {n : Nat} (h : b.length < n) : (takeB ok b w).length < n := by
  unfold takeB
  cases takeOk ok b w with
  | true => simp only [cond_true, List.length_drop]; omega
  | false => exact h
theorem exitI {s s' : Rs} {k k0 : Nat} {l : List (El tI)} (h : (bif decide ((k : Int) > 0) then s'.1 else false) = false) (hl : insL k s' l = insL k0 (hdS s) []) (hk : hdN s = k0) : nodeS s = (ndOf s l, s') := by
  have e : insL k s' l = (s', l) := by
    cases k with
    | zero => rfl
    | succ k =>
      rw [Bool.cond_false_right, Bool.and_eq_false_iff] at h
      rcases h with h | h
      · have := of_decide_eq_false h; omega
      · rw [insL, if_neg (by rw [h]; simp)]
  unfold nodeS
  rw [hk, Int.toNat_natCast, ← hl, e]
theorem exitO {b : List (El tU)} {s s0 : Rs} {j m : Nat} {g : List Nd} (h : decide ((j : Int) < takeX true b 1) = false) (hM : takeX true b 1 = m) (hj : j ≤ m) (hl : getL (m - j) s g = getL m s0 []) : getL m s0 [] = some (g, s) := by
  have h := of_decide_eq_false h
  rw [hM] at h
  rw [← hl, show m - j = 0 by omega]
  rfl
theorem wrapP {k : Nat} (h : k ≤ 1000) : IntKind.i64.wrap (((k + 1 : Nat) : Int) - 1) = (k : Int) := by
  rw [IntKind.wrap_i64]; omega
theorem cs_get : AllFn Try.prog [(29, k_take.con), (27, k_may.con)] := ⟨c_take, c_may, trivial⟩

attribute [local irreducible] takeX takeOk takeB
set_option maxRecDepth 100000 in
set_option maxHeartbeats 20000000 in
theorem c_get : FnOk Try.prog 18 k_get.con := by
  refine fnOkS mixed tys_ok (cs := [(29, k_take.con), (27, k_may.con)]) cs_get Try.func18 rfl (by kernel_rfl) Try.ntmps18 _ (h := ?_)
  intro b
  refine ⟨rfl, fun hp => ?_⟩
  obtain ⟨hpB, hp⟩ := hp
  conv => whnf
  repeat' ((first
    | with_reducible refine ⟨fun h => h, ?_⟩
    | with_reducible refine ⟨pk1, ?_⟩
    | with_reducible refine ⟨pk2, ?_⟩
    | with_reducible refine ⟨pk3, ?_⟩
    | with_reducible refine ⟨pk4, ?_⟩
    | with_reducible refine ⟨pk5, ?_⟩
    | with_reducible refine ⟨pk6, ?_⟩
    | with_reducible refine ⟨trivial, ?_⟩
    | with_reducible refine ⟨fun _ => trivial, ?_⟩
    | with_reducible refine fork_t (by assumption) ?_
    | with_reducible refine fork_f (by assumption) ?_
    | refine fork_t rfl ?_
    | refine fork_f rfl ?_
    | with_reducible refine fork_i (fun h => ?_) (fun h => ?_)
    | with_reducible refine both_i ?_ ?_
    | ((with_reducible refine alike_i ?_); exact ⟨rfl, rfl, rfl⟩)
    | ((with_reducible refine fin_i ?_); (conv => whnf); refine ⟨rfl, ?_⟩)
    | with_reducible refine ⟨⟨by decide, by decide, hp⟩, ?_⟩
    | refine ⟨of_decide_eq_true rfl, ?_⟩
    | refine ⟨fun _ => of_decide_eq_true rfl, ?_⟩
    | ((with_reducible refine ⟨?_, ?_⟩); (focus (intros; simp_all; done)))
    | ((with_reducible refine ⟨?_, ?_⟩); (focus (intros; omega)))) <;> (try (conv => whnf)))
  · have hm : rdX (true, b) 1 < 1 ∨ 32 < rdX (true, b) 1 := by
      rw [Bool.cond_true_left, Bool.or_eq_true] at h
      rcases h with h | h <;> have := of_decide_eq_true h
      · exact .inl this
      · exact .inr this
    all_goals ((with_reducible refine leaf_i ?_); (conv => whnf))
    repeat' ((with_reducible refine And.intro ?_ ?_) <;> (try (conv => whnf)))
    all_goals (try (first | with_reducible rfl | exact True.intro | rfl | exact id | exact fun h => h | exact fun _ => rfl))
    all_goals (unfold getG; rw [if_pos hm])
  · have hm : ¬ (rdX (true, b) 1 < 1 ∨ 32 < rdX (true, b) 1) := by
      rw [Bool.cond_true_left, Bool.or_eq_false_iff] at h
      have h1 := of_decide_eq_false h.1
      have h2 := of_decide_eq_false h.2
      exact fun hh => hh.elim h1 h2
    obtain ⟨m, hM⟩ : ∃ m : Nat, rdX (true, b) 1 = m := ⟨(rdX (true, b) 1).toNat, by omega⟩
    have hM' : takeX true b 1 = m := hM
    have hm1 : 1 ≤ m ∧ m ≤ 32 := by rw [hM] at hm; omega
    have hGo : getG b = match getL m (rdS (true, b) 1) [] with
        | none => ([], 90)
        | some (g, s) => if s.2.length = 0 then (g, 0) else ([], 90) := by
      unfold getG; rw [if_neg hm, hM]; rfl
    generalize hs0 : rdS (true, b) 1 = s0 at hGo
    have hs1 : takeOk true b 1 = s0.1 := by rw [← hs0]; rfl
    have hs2 : takeB true b 1 = s0.2 := by rw [← hs0]; rfl
    have hl0 : s0.2.length < 4611686018427387904 := by rw [← hs2]; exact takeB_lt hp
    have hi0 : isB s0.2 := by rw [← hs0]; exact rd_isB hpB 1
    refine only [1, 5, 6, 19] ?_
    (conv => whnf)
    refine looped (σ := Nat × Rs × List (El tN)) (fun x => [(20, I x.1), (4, .ow 2 5 x.2.2.length)]) (fun x => [.cells (.cons (.rl false tU x.2.1.2) .nil), .cells (.cons (B x.2.1.1) .nil), .row true tN 48 x.2.2]) (fun x => isB x.2.1.2 ∧ x.2.1.2.length < 4611686018427387904 ∧ x.2.2.length ≤ x.1 ∧ x.1 ≤ m ∧ getL (m - x.1) x.2.1 x.2.2 = getL m s0 []) (fun x => m - x.1) (0, s0, []) ⟨hi0, hl0, Nat.le_refl _, Nat.zero_le _, rfl⟩ ?_ ?_
    · conv => whnf
      refine ⟨rfl, leaf_i ?_⟩
      repeat' ((with_reducible refine And.intro ?_ ?_) <;> (try (conv => whnf)))
      all_goals (try (first | with_reducible rfl | exact True.intro | rfl | exact id | exact fun h => h | exact fun _ => rfl))
      all_goals first | exact hs2 | exact hs1
    · rintro ⟨j, s, g⟩ ⟨hi, hb, hg, hj, hl⟩
      dsimp only at hi hb hg hj hl
      conv => whnf
      repeat' ((first
        | with_reducible refine ⟨fun h => h, ?_⟩
        | with_reducible refine ⟨pk1, ?_⟩
        | with_reducible refine ⟨pk2, ?_⟩
        | with_reducible refine ⟨pk3, ?_⟩
        | with_reducible refine ⟨pk4, ?_⟩
        | with_reducible refine ⟨pk5, ?_⟩
        | with_reducible refine ⟨pk6, ?_⟩
        | with_reducible refine ⟨trivial, ?_⟩
        | with_reducible refine ⟨fun _ => trivial, ?_⟩
        | with_reducible refine fork_t (by assumption) ?_
        | with_reducible refine fork_f (by assumption) ?_
        | refine fork_t rfl ?_
        | refine fork_f rfl ?_
        | with_reducible refine fork_i (fun h => ?_) (fun h => ?_)
        | with_reducible refine both_i ?_ ?_
        | ((with_reducible refine alike_i ?_); exact ⟨rfl, rfl, rfl⟩)
        | ((with_reducible refine fin_i ?_); (conv => whnf); refine ⟨rfl, ?_⟩)
        | with_reducible refine ⟨⟨by decide, by decide, by repeat (first | exact hb | apply takeB_lt)⟩, ?_⟩
        | refine ⟨of_decide_eq_true rfl, ?_⟩
        | refine ⟨fun _ => of_decide_eq_true rfl, ?_⟩
        | ((with_reducible refine ⟨?_, ?_⟩); (focus (intros; simp_all; done)))
        | ((with_reducible refine ⟨?_, ?_⟩); (focus (intros; omega)))) <;> (try (conv => whnf)))
      · have hjm : j < m := by
          have h := of_decide_eq_true h
          have h : (j : Int) < takeX true b 1 := h
          rw [hM'] at h; omega
        obtain ⟨k0, hk0⟩ : ∃ k0 : Nat, hdN s = k0 := ⟨(hdN s).toNat, by have := hdN_byte hi; omega⟩
        have hk1 : k0 ≤ 255 := by have := hdN_byte hi; omega
        refine only [1, 4, 5, 6, 8, 19, 20] ?_
        (conv => whnf)
        refine looped (σ := Nat × Rs × List (El tI)) (fun x => [(9, I x.1)]) (fun x => [.cells (.cons (.rl false tU x.2.1.2) .nil), .cells (.cons (B x.2.1.1) .nil), .row true tN 48 g, .cells (.cons (.v (.int .u8 (ndOf s []).1)) (.cons (.v (.int .u8 (ndOf s []).2.1)) (.cons (.v (.int .i64 (ndOf s []).2.2.1)) (.cons (.v (.int .i64 (ndOf s []).2.2.2.1)) (.cons (.ow 4 1 x.2.2.length) .nil))))), .row true tI 3 x.2.2]) (fun x => isB x.2.1.2 ∧ x.2.1.2.length < 4611686018427387904 ∧ x.2.2.length + x.1 ≤ 255 ∧ insL x.1 x.2.1 x.2.2 = insL k0 (hdS s) []) (fun x => x.1) (k0, hdS s, []) ⟨hdS_isB hi, Nat.lt_of_le_of_lt (hdS_len s) hb, by simp; exact hk1, rfl⟩ ?_ ?_
        · conv => whnf
          refine ⟨rfl, leaf_i ?_⟩
          repeat' ((with_reducible refine And.intro ?_ ?_) <;> (try (conv => whnf)))
          all_goals (try (first | with_reducible rfl | exact True.intro | rfl | exact id | exact fun h => h | exact fun _ => rfl))
          exact hk0
        · rintro ⟨k, s', l⟩ ⟨hi', hb', hk, hl'⟩
          dsimp only at hi' hb' hk hl'
          conv => whnf
          repeat' ((first
            | with_reducible refine ⟨fun h => h, ?_⟩
            | with_reducible refine ⟨pk1, ?_⟩
            | with_reducible refine ⟨pk2, ?_⟩
            | with_reducible refine ⟨pk3, ?_⟩
            | with_reducible refine ⟨pk4, ?_⟩
            | with_reducible refine ⟨pk5, ?_⟩
            | with_reducible refine ⟨pk6, ?_⟩
            | with_reducible refine ⟨trivial, ?_⟩
            | with_reducible refine ⟨fun _ => trivial, ?_⟩
            | with_reducible refine fork_t (by assumption) ?_
            | with_reducible refine fork_f (by assumption) ?_
            | refine fork_t rfl ?_
            | refine fork_f rfl ?_
            | with_reducible refine fork_i (fun h => ?_) (fun h => ?_)
            | with_reducible refine both_i ?_ ?_
            | ((with_reducible refine alike_i ?_); exact ⟨rfl, rfl, rfl⟩)
            | ((with_reducible refine fin_i ?_); (conv => whnf); refine ⟨rfl, ?_⟩)
            | with_reducible refine ⟨⟨by decide, by decide, by repeat (first | exact hb' | apply takeB_lt)⟩, ?_⟩
            | ((with_reducible refine ⟨?_, ?_⟩); (focus (simp only [List.length_append, List.length_cons, List.length_nil]; omega)))
            | ((with_reducible refine ⟨?_, ?_⟩); (focus (intro _; show List.length _ < 4611686018427387904; (try dsimp only); omega)))
            | refine ⟨of_decide_eq_true rfl, ?_⟩
            | refine ⟨fun _ => of_decide_eq_true rfl, ?_⟩
            | ((with_reducible refine ⟨?_, ?_⟩); (focus (intros; simp_all; done)))
            | ((with_reducible refine ⟨?_, ?_⟩); (focus (intros; omega)))) <;> (try (conv => whnf)))
          · have hk2 : 0 < k ∧ s'.1 = true := by
              have h2 : (bif decide ((k : Int) > 0) then s'.1 else false) = true := by assumption
              rw [Bool.cond_false_right, Bool.and_eq_true] at h2
              have := of_decide_eq_true h2.1
              exact ⟨by omega, h2.2⟩
            obtain ⟨k1, rfl⟩ : ∃ k1, k = k1 + 1 := ⟨k - 1, by omega⟩
            refine next_i (k1, rdS s' 1, l ++ [(rdX s' 1, ())]) ⟨rd_isB hi' 1, takeB_lt hb', (by show (l ++ [(rdX s' 1, ())]).length + k1 ≤ 255; rw [List.length_append, List.length_singleton]; omega), (by rw [← hl']; show _ = insL (k1 + 1) s' l; rw [insL, if_pos hk2.2])⟩ (by dsimp only; omega) rfl rfl ?_
            conv => whnf
            refine ⟨rfl, leaf_i ?_⟩
            repeat' ((with_reducible refine And.intro ?_ ?_) <;> (try (conv => whnf)))
            all_goals (try (first | with_reducible rfl | exact True.intro | rfl | exact id | exact fun h => h | exact fun _ => rfl))
            all_goals exact wrapP (by omega)
          · have hy : ¬ (s'.1 = true ∧ mayN (ndOf s l) = true) := fun hh => by
              have h2 : (bif !s'.1 then true else !mayN (ndOf s l)) = true := h
              rw [hh.1, hh.2] at h2; cases h2
            have hn := exitI (s := s) (by assumption) hl' hk0
            have hG : getG b = ([], 90) := by
              rw [hGo]
              have : getL (m - j) s g = none := by rw [show m - j = (m - j - 1) + 1 by omega, getL, hn]; exact if_neg hy
              rw [← hl, this]
            all_goals ((with_reducible refine leaf_i ?_); (conv => whnf))
            repeat' ((with_reducible refine And.intro ?_ ?_) <;> (try (conv => whnf)))
            all_goals (try (first | with_reducible rfl | exact True.intro | rfl | exact id | exact fun h => h | exact fun _ => rfl))
            all_goals (rw [hG])
          · have hy : s'.1 = true ∧ mayN (ndOf s l) = true := by
              have h2 : (bif !s'.1 then true else !mayN (ndOf s l)) = false := h
              rw [Bool.cond_true_left, Bool.or_eq_false_iff] at h2
              exact ⟨by simpa using h2.1, by simpa using h2.2⟩
            have hn := exitI (s := s) (by assumption) hl' hk0
            refine next_i (j + 1, s', g ++ [ndOf s l]) ⟨hi', hb', (by show (g ++ [ndOf s l]).length ≤ j + 1; rw [List.length_append, List.length_singleton]; omega), hjm, ?_⟩ (by dsimp only; omega) rfl rfl ?_
            · rw [← hl]
              show getL (m - (j + 1)) s' (g ++ [ndOf s l]) = _
              rw [show m - j = (m - (j + 1)) + 1 by omega, getL, hn]
              exact (if_pos hy).symm
            conv => whnf
            refine ⟨rfl, leaf_i ?_⟩
            repeat' ((with_reducible refine And.intro ?_ ?_) <;> (try (conv => whnf)))
            all_goals (try (first | with_reducible rfl | exact True.intro | rfl | exact id | exact fun h => h | exact fun _ => rfl))
            all_goals (exact wrapS (by (try dsimp only); omega))
      · have hx := exitO (by assumption) hM' hj hl
        have h0 : s.2.length = 0 := by
          have h2 : ((s.2.length : Int) == 0) = true := by assumption
          have := eq_of_beq h2; omega
        have hG : getG b = (g, 0) := by rw [hGo, hx]; exact if_pos h0
        all_goals ((with_reducible refine leaf_i ?_); (conv => whnf))
        repeat' ((with_reducible refine And.intro ?_ ?_) <;> (try (conv => whnf)))
        all_goals (try (first | with_reducible rfl | exact True.intro | rfl | exact id | exact fun h => h | exact fun _ => rfl))
        all_goals (rw [hG])
      · have hx := exitO (by assumption) hM' hj hl
        have h0 : ¬ s.2.length = 0 := by
          have h2 : ((s.2.length : Int) == 0) = false := by assumption
          have := ne_of_beq_false h2; omega
        have hG : getG b = ([], 90) := by rw [hGo, hx]; exact if_neg h0
        all_goals ((with_reducible refine leaf_i ?_); (conv => whnf))
        repeat' ((with_reducible refine And.intro ?_ ?_) <;> (try (conv => whnf)))
        all_goals (try (first | with_reducible rfl | exact True.intro | rfl | exact id | exact fun h => h | exact fun _ => rfl))
        all_goals (rw [hG])

end Go.Proofs.Ytjikhbdpkddbgaa
