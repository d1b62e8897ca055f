/- Parts of the proof, joined: no conditions of their own. -/
import Derived.Test.YtbgcgokikekmoaaG05
import Derived.Test.YtbgcgokikekmoaaG06
import Derived.Test.YtbgcgokikekmoaaG07
/- Layer 10, the document: stuck. -/
namespace Go.Proofs.Ytbgcgokikekmoaa
set_option linter.unusedVariables false
set_option linter.unusedSimpArgs false
set_option maxRecDepth 100000
open Go Go.RowKit Go.Proofs.Ytbgcgokikekmoaa.Eng

theorem few_fit {g : List Nd} (h : few g) : fitG g := ⟨by have := h.1; omega, fun x hx => by have := h.2 x hx; omega⟩
def inQ (g : List Nd) (q : List (El tI)) : Prop := ∀ t ∈ q, 0 ≤ t.1 ∧ t.1 < 2 * (g.length : Int)
theorem nxt_in {g : List Nd} {least p t : Int} (hg : g.length ≤ 32) (hp : 0 ≤ p ∧ p < (g.length : Int)) (ht : 0 ≤ t) : 0 ≤ nxt g least p t ∧ nxt g least p t < 2 * (g.length : Int) := by
  have hd : dbl p = 2 * p := wrapI (by omega) (by omega)
  have hm : t.tmod 2 = t % 2 := Int.tmod_eq_emod_of_nonneg ht
  unfold nxt nx1 nx2
  rw [hd, hm]
  split
  · rw [wrapI (by omega) (by omega)]; omega
  · rw [wrapI (by omega) (by omega)]; omega
theorem nx2_eq (p : Int) : nx2 p = IntKind.i64.wrap (IntKind.i64.wrap (2 * p) + 1) := rfl
theorem nx1_eq (p t : Int) : nx1 p t = IntKind.i64.wrap (IntKind.i64.wrap (2 * p) + t.tmod 2) := rfl
theorem half_eq (t : Int) : half t = IntKind.i64.wrap (t.tdiv 2) := rfl
theorem dbl_eq (t : Int) : dbl t = IntKind.i64.wrap (2 * t) := rfl
theorem rstuck_y {g : List Nd} {fr least : Int} (h : stayB least (nd g fr) = true) : rstuckB g fr least = bfsO g fr least (2 * g.length + 2) 0 (falseR (2 * g.length)) [(if (nd g fr).dep = least then nx2 fr else dbl fr, ())] := by unfold rstuckB; rw [if_pos h]
theorem rstuck_n {g : List Nd} {fr least : Int} (h : ¬ stayB least (nd g fr) = true) : rstuckB g fr least = false := by unfold rstuckB; rw [if_neg h]
theorem not_stay {a : Bool} (h : (!a) = false) : a = true := by cases a; cases h; rfl
theorem not_stay2 {a : Bool} (h : (!a) = true) : ¬ a = true := by cases a; simp; cases h
abbrev lsT (g : List Nd) (q : List (El tI)) (i : Nat) : List (El tP) := toG g (IntKind.i64.wrap ((getE tI q i).1.tdiv 2))
abbrev ptN (g : List Nd) (q : List (El tI)) (i k : Nat) : Int := (getE tP (lsT g q i) k).1
theorem seen_in {s : List (El tB)} {n m : Nat} {x : Int} (h : 0 ≤ x ∧ x < 2 * (n : Int)) (hm : m = 2 * n) : 0 ≤ x ∧ x < (m : Int) := by omega
theorem inQ_snoc {g : List Nd} {q : List (El tI)} (h : inQ g q) {x : Int} (hx : 0 ≤ x ∧ x < 2 * (g.length : Int)) : inQ g (q ++ [(x, ())]) := fun t ht => by
  rcases List.mem_append.1 ht with ht | ht
  · exact h t ht
  · have e := List.mem_singleton.1 ht
    rw [e]; exact hx
theorem get_snoc {q : List (El tI)} {i : Nat} (h : i < q.length) (x : El tI) : getE tI (q ++ [x]) i = getE tI q i := by
  unfold getE
  simp [List.getD_eq_getElem?_getD, List.getElem?_append_left h]
attribute [local irreducible] nxt nx1 nx2 dbl half bfsI bfsO rstuckB stayB
def k_rstuck : Sig := .arg (shR tN) fun g => .arg shI fun fr => .arg shI fun least => .done { pre := few g ∧ 0 ≤ fr ∧ fr < (g.length : Int), res := B (rstuckB g fr least) }
set_option maxHeartbeats 4000000 in
theorem c_rstuck : FnOk Try.prog 33 k_rstuck.con := by
  refine fnOkS mixed tys_ok (cs := [(49, k_rstays.con), (50, k_rto.con)]) ⟨c_rstays, c_rto, trivial⟩ Try.func33 rfl (by kernel_rfl) Try.ntmps33 _ (h := ?_)
  intro g fr least
  refine ⟨rfl, fun hp => ?_⟩
  obtain ⟨hp, hfr⟩ := hp
  have hg := hp.1
  have hmk : 0 ≤ IntKind.i64.wrap (2 * (g.length : Int)) ∧ IntKind.i64.wrap (2 * (g.length : Int)) ≤ IntKind.i64.wrap (2 * (g.length : Int)) ∧ IntKind.i64.wrap (2 * (g.length : Int)) ≤ 1000000000 := by
    rw [wrapI (by omega) (by omega)]; omega
  conv => whnf
  repeat' ((first
    | with_reducible refine ⟨fun h => h, ?_⟩
    | with_reducible refine ⟨pk1, ?_⟩
    | with_reducible refine ⟨pk2, ?_⟩
    | with_reducible refine ⟨pk3, ?_⟩
    | with_reducible refine ⟨pk4, ?_⟩
    | with_reducible refine ⟨pk5, ?_⟩
    | with_reducible refine ⟨pk6, ?_⟩
    | with_reducible refine ⟨trivial, ?_⟩
    | with_reducible refine ⟨fun _ => trivial, ?_⟩
    | with_reducible refine ⟨rfl, ?_⟩
    | with_reducible refine every_i (fun hd => ?_)
    | with_reducible refine fork_t (by assumption) ?_
    | with_reducible refine fork_f (by assumption) ?_
    | refine fork_t rfl ?_
    | refine fork_f rfl ?_
    | with_reducible refine fork_i (fun h => ?_) (fun h => ?_)
    | with_reducible refine both_i ?_ ?_
    | ((with_reducible refine alike_i ?_); exact ⟨rfl, rfl, rfl⟩)
    | ((with_reducible refine fin_i ?_); (conv => whnf); refine ⟨rfl, ?_⟩)
    | refine ⟨hfr, ?_⟩
    | refine ⟨hmk, ?_⟩
    | refine ⟨of_decide_eq_true rfl, ?_⟩
    | refine ⟨fun _ => of_decide_eq_true rfl, ?_⟩
    | ((with_reducible refine ⟨?_, ?_⟩); (focus (intros; simp_all; done)))
    | ((with_reducible refine ⟨?_, ?_⟩); (focus (intros; omega)))) <;> (try (conv => whnf)))
  · have hn : ¬ stayB least (nd g fr) = true := fun hh => by
      have h' : (!stayB least (nd g fr)) = true := h
      rw [hh] at h'; cases h'
    rw [rstuck_n hn]
    all_goals ((with_reducible refine leaf_i ?_); (conv => whnf))
    repeat' ((with_reducible refine And.intro ?_ ?_) <;> (try (conv => whnf)))
    all_goals (try (first | with_reducible rfl | exact True.intro | rfl | exact id | exact fun h => h | exact fun _ => rfl))
    all_goals (first | rfl | trace_state)
  all_goals
    have hy : stayB least (nd g fr) = true := by
      have h' : (!stayB least (nd g fr)) = false := by assumption
      simpa using h'
    have hy2 := rstuck_y hy
    rw [hy2]
    clear hy2
    have hN : (IntKind.i64.wrap (2 * (g.length : Int))).toNat = 2 * g.length := by rw [wrapI (by omega) (by omega)]; omega
    generalize hq0 : (if (nd g fr).dep = least then nx2 fr else dbl fr) = t0
    have ht0 : 0 ≤ t0 ∧ t0 < 2 * (g.length : Int) := by
      rw [← hq0]
      split
      · rw [nx2_eq, wrapI (x := 2 * fr) (by omega) (by omega), wrapI (by omega) (by omega)]; omega
      · rw [dbl_eq, wrapI (x := 2 * fr) (by omega) (by omega)]; omega
    generalize hR : bfsO g fr least (2 * g.length + 2) 0 (falseR (2 * g.length)) [(t0, ())] = R0
    have hini : inQ g [(t0, ())] := fun t ht => by
      have e := List.mem_singleton.1 ht
      rw [e]; exact ht0
    have hcn : 1 + cntF (falseR (2 * g.length)) ≤ 2 * g.length + 1 := by rw [cntF_rep]; omega
    refine only [0, 1, 2, 6, 7] ?_
    (conv => whnf)
    refine looped (σ := Nat × List (El tB) × List (El tI)) (fun x => [(10, I x.1), (9, .ow 1 1 x.2.2.length)]) (fun x => [.row true tB 4 x.2.1, .row true tI 3 x.2.2]) (fun x => x.2.1.length = 2 * g.length ∧ inQ g x.2.2 ∧ x.1 ≤ x.2.2.length ∧ x.2.2.length + cntF x.2.1 ≤ 2 * g.length + 1 ∧ bfsO g fr least (2 * g.length + 2 - x.1) x.1 x.2.1 x.2.2 = R0) (fun x => 2 * g.length + 2 - x.1) (0, falseR (2 * g.length), [(t0, ())]) ⟨List.length_replicate, hini, Nat.zero_le _, hcn, hR⟩ ?_ ?_
    · conv => whnf
      refine ⟨rfl, leaf_i ?_⟩
      repeat' ((with_reducible refine And.intro ?_ ?_) <;> (try (conv => whnf)))
      all_goals (try (first | with_reducible rfl | exact True.intro | rfl | exact id | exact fun h => h | exact fun _ => rfl))
      all_goals (first | (show List.replicate _ _ = falseR _; rw [hN]; rfl) | (rw [if_pos (show (nd g fr).dep = least from eq_of_beq h), nx2_eq] at hq0; rw [hq0]) | (rw [if_neg (show ¬ (nd g fr).dep = least from ne_of_beq_false h), dbl_eq] at hq0; rw [hq0]))
    · rintro ⟨i, s, q⟩ ⟨hs, hq, hi, hc, hb⟩
      dsimp only at hs hq hi hc hb ⊢
      have hii : decide ((i : Int) < (q.length : Int)) = true → 0 ≤ (i : Int) ∧ (i : Int) < (q.length : Int) := fun h => by have := lt_t h; omega
      have hto := few_to hp (half (getE tI q i).1)
      have hpr : (toG g (half (getE tI q i).1)).length ≤ 1000000000 ∧ fitG g := ⟨by omega, few_fit hp⟩
      rw [half_eq] at hpr hto
      conv => whnf
      repeat' ((first
        | with_reducible refine ⟨fun h => h, ?_⟩
        | with_reducible refine ⟨pk1, ?_⟩
        | with_reducible refine ⟨pk2, ?_⟩
        | with_reducible refine ⟨pk3, ?_⟩
        | with_reducible refine ⟨pk4, ?_⟩
        | with_reducible refine ⟨pk5, ?_⟩
        | with_reducible refine ⟨pk6, ?_⟩
        | with_reducible refine ⟨trivial, ?_⟩
        | with_reducible refine ⟨fun _ => trivial, ?_⟩
        | with_reducible refine ⟨rfl, ?_⟩
        | with_reducible refine every_i (fun hd => ?_)
        | with_reducible refine fork_t (by assumption) ?_
        | with_reducible refine fork_f (by assumption) ?_
        | refine fork_t rfl ?_
        | refine fork_f rfl ?_
        | with_reducible refine fork_i (fun h => ?_) (fun h => ?_)
        | with_reducible refine both_i ?_ ?_
        | ((with_reducible refine alike_i ?_); exact ⟨rfl, rfl, rfl⟩)
        | ((with_reducible refine fin_i ?_); (conv => whnf); refine ⟨rfl, ?_⟩)
        | refine ⟨hii (by assumption), ?_⟩
        | refine ⟨hpr, ?_⟩
        | refine ⟨of_decide_eq_true rfl, ?_⟩
        | refine ⟨fun _ => of_decide_eq_true rfl, ?_⟩
        | ((with_reducible refine ⟨?_, ?_⟩); (focus (intros; simp_all; done)))
        | ((with_reducible refine ⟨?_, ?_⟩); (focus (intros; omega)))) <;> (try (conv => whnf)))
      · have hi' : i < q.length := lt_t (by assumption)
        rw [show 2 * g.length + 2 - i = (2 * g.length + 1 - i) + 1 by omega, bfsO_s, if_pos hi'] at hb
        generalize hX : bfsI g fr least (getE tI q i).1 (toG g (half (getE tI q i).1)) s q = X0 at hb
        rw [half_eq] at hX
        refine only [0, 1, 2, 6, 7, 10, 11] ?_
        (conv => whnf)
        have hq1 := hq _ (getE_mem q hi')
        refine looped (σ := Nat × List (El tB) × List (El tI)) (fun x => [(12, I x.1), (9, .ow 1 1 x.2.2.length)]) (fun x => [.row true tB 4 x.2.1, .row true tI 3 x.2.2]) (fun x => x.1 ≤ (lsT g q i).length ∧ x.2.1.length = 2 * g.length ∧ inQ g x.2.2 ∧ i < x.2.2.length ∧ getE tI x.2.2 i = getE tI q i ∧ x.2.2.length + cntF x.2.1 ≤ 2 * g.length + 1 ∧ bfsI g fr least (getE tI q i).1 ((lsT g q i).drop x.1) x.2.1 x.2.2 = X0) (fun x => (lsT g q i).length - x.1) (0, s, q) ⟨Nat.zero_le _, hs, hq, hi', rfl, hc, hX⟩ ?_ ?_
        · conv => whnf
          refine ⟨rfl, leaf_i ?_⟩
          repeat' ((with_reducible refine And.intro ?_ ?_) <;> (try (conv => whnf)))
          all_goals (try (first | with_reducible rfl | exact True.intro | rfl | exact id | exact fun h => h | exact fun _ => rfl))
        · rintro ⟨k, s2, q2⟩ ⟨hk, hs2, hq2, hi2, ht2, hc2, hX2⟩
          dsimp only at hk hs2 hq2 hi2 ht2 hc2 hX2 ⊢
          have hpo : decide ((k : Int) < ((lsT g q i).length : Int)) = true → 0 ≤ ptN g q i k ∧ ptN g q i k < (g.length : Int) := fun h => by
            obtain ⟨j, e, hj⟩ := toG_at (lt_t h)
            unfold ptN lsT
            rw [e]; omega
          have hi3 : 0 ≤ (i : Int) ∧ (i : Int) < (q2.length : Int) := by omega
          have hn2 : decide ((k : Int) < ((lsT g q i).length : Int)) = true → 0 ≤ nx2 (ptN g q i k) ∧ nx2 (ptN g q i k) < 2 * (g.length : Int) := fun h => by
            have := hpo h
            rw [nx2_eq, wrapI (x := 2 * ptN g q i k) (by omega) (by omega), wrapI (by omega) (by omega)]; omega
          have hn1 : decide ((k : Int) < ((lsT g q i).length : Int)) = true → 0 ≤ nx1 (ptN g q i k) (getE tI q2 i).1 ∧ nx1 (ptN g q i k) (getE tI q2 i).1 < 2 * (g.length : Int) := fun h => by
            have := hpo h
            rw [ht2, nx1_eq, Int.tmod_eq_emod_of_nonneg hq1.1, wrapI (x := 2 * ptN g q i k) (by omega) (by omega), wrapI (by omega) (by omega)]; omega
          have hx2 := fun h => seen_in (s := s2) (hn2 h) hN
          have hx1 := fun h => seen_in (s := s2) (hn1 h) hN
          rw [nx2_eq] at hx2
          rw [nx1_eq] at hx1
          have happ : ∀ x : El tI, (q2 ++ [x]).length ≤ 1000000000 := fun x => by simp only [List.length_append, List.length_cons, List.length_nil]; omega
          conv => whnf
          repeat' ((first
            | with_reducible refine ⟨fun h => h, ?_⟩
            | with_reducible refine ⟨pk1, ?_⟩
            | with_reducible refine ⟨pk2, ?_⟩
            | with_reducible refine ⟨pk3, ?_⟩
            | with_reducible refine ⟨pk4, ?_⟩
            | with_reducible refine ⟨pk5, ?_⟩
            | with_reducible refine ⟨pk6, ?_⟩
            | with_reducible refine ⟨trivial, ?_⟩
            | with_reducible refine ⟨fun _ => trivial, ?_⟩
            | with_reducible refine ⟨rfl, ?_⟩
            | with_reducible refine every_i (fun hd => ?_)
            | with_reducible refine fork_t (by assumption) ?_
            | with_reducible refine fork_f (by assumption) ?_
            | refine fork_t rfl ?_
            | refine fork_f rfl ?_
            | with_reducible refine fork_i (fun h => ?_) (fun h => ?_)
            | with_reducible refine both_i ?_ ?_
            | ((with_reducible refine alike_i ?_); exact ⟨rfl, rfl, rfl⟩)
            | ((with_reducible refine fin_i ?_); (conv => whnf); refine ⟨rfl, ?_⟩)
            | refine ⟨hpo (by assumption), ?_⟩
            | refine ⟨hi3, ?_⟩
            | refine ⟨hx2 (by assumption), ?_⟩
            | refine ⟨hx1 (by assumption), ?_⟩
            | refine ⟨happ _, ?_⟩
            | refine ⟨of_decide_eq_true rfl, ?_⟩
            | refine ⟨fun _ => of_decide_eq_true rfl, ?_⟩
            | ((with_reducible refine ⟨?_, ?_⟩); (focus (intros; simp_all; done)))
            | ((with_reducible refine ⟨?_, ?_⟩); (focus (intros; omega)))) <;> (try (conv => whnf)))
          · have hk' : k < (lsT g q i).length := lt_t (by assumption)
            have hkb : k < 64 := by have h64 : (lsT g q i).length ≤ 64 := hto; omega
            have hst : ¬ stayB least (nd g (ptN g q i k)) = true := not_stay2 (by assumption)
            rw [drop_get _ hk', bfsI_cons, if_neg hst] at hX2
            refine next_i (k + 1, s2, q2) ⟨hk', hs2, hq2, hi2, ht2, hc2, hX2⟩ (by dsimp only; omega) rfl rfl ?_
            conv => whnf
            refine ⟨rfl, leaf_i ?_⟩
            repeat' ((with_reducible refine And.intro ?_ ?_) <;> (try (conv => whnf)))
            all_goals (try (first | with_reducible rfl | exact True.intro | rfl | exact id | exact fun h => h | exact fun _ => rfl))
            all_goals (try (first | rfl | exact wrapS (by omega)))
          · have hk' : k < (lsT g q i).length := lt_t (by assumption)
            have hkb : k < 64 := by have h64 : (lsT g q i).length ≤ 64 := hto; omega
            have hst : stayB least (nd g (ptN g q i k)) = true := not_stay (by assumption)
            have hd : nxt g least (ptN g q i k) (getE tI q i).1 = IntKind.i64.wrap (IntKind.i64.wrap (2 * ptN g q i k) + 1) := by
              rw [nxt_t (eq_of_beq (show ((nd g (ptN g q i k)).dep == least) = true by assumption)), nx2_eq]
            rw [drop_get _ hk', bfsI_cons, if_pos hst, hd] at hX2
            have he : ((IntKind.i64.wrap (IntKind.i64.wrap (2 * ptN g q i k) + 1)) == IntKind.i64.wrap (IntKind.i64.wrap (2 * fr) + 1)) = true := by assumption
            rw [if_pos (by rw [nx2_eq]; exact eq_of_beq he)] at hX2
            rw [← hX2] at hb
            all_goals ((with_reducible refine leaf_i ?_); (conv => whnf))
            repeat' ((with_reducible refine And.intro ?_ ?_) <;> (try (conv => whnf)))
            all_goals (try (first | with_reducible rfl | exact True.intro | rfl | exact id | exact fun h => h | exact fun _ => rfl))
            all_goals exact hb
          · have hk' : k < (lsT g q i).length := lt_t (by assumption)
            have hkb : k < 64 := by have h64 : (lsT g q i).length ≤ 64 := hto; omega
            have hst : stayB least (nd g (ptN g q i k)) = true := not_stay (by assumption)
            have hd : nxt g least (ptN g q i k) (getE tI q i).1 = IntKind.i64.wrap (IntKind.i64.wrap (2 * ptN g q i k) + 1) := by
              rw [nxt_t (eq_of_beq (show ((nd g (ptN g q i k)).dep == least) = true by assumption)), nx2_eq]
            rw [drop_get _ hk', bfsI_cons, if_pos hst, hd] at hX2
            have he : ((IntKind.i64.wrap (IntKind.i64.wrap (2 * ptN g q i k) + 1)) == IntKind.i64.wrap (IntKind.i64.wrap (2 * fr) + 1)) = false := by assumption
            have hsn : (!(getE tB s2 (IntKind.i64.wrap (IntKind.i64.wrap (2 * ptN g q i k) + 1)).toNat).1) = true := by assumption
            have hin : 0 ≤ (IntKind.i64.wrap (IntKind.i64.wrap (2 * ptN g q i k) + 1)) ∧ (IntKind.i64.wrap (IntKind.i64.wrap (2 * ptN g q i k) + 1)) < 2 * (g.length : Int) := by have := hn2 (by assumption); rw [nx2_eq] at this; exact this
            have hfs : (getE tB s2 (IntKind.i64.wrap (IntKind.i64.wrap (2 * ptN g q i k) + 1)).toNat).1 = false := by simpa using hsn
            have hcs := cntF_set s2 (IntKind.i64.wrap (IntKind.i64.wrap (2 * ptN g q i k) + 1)).toNat (by omega) hfs
            rw [if_neg (by rw [nx2_eq]; exact ne_of_beq_false he), if_neg (by rw [hfs]; simp)] at hX2
            refine next_i (k + 1, s2.set (IntKind.i64.wrap (IntKind.i64.wrap (2 * ptN g q i k) + 1)).toNat (true, ()), q2 ++ [((IntKind.i64.wrap (IntKind.i64.wrap (2 * ptN g q i k) + 1)), ())]) ⟨hk', by rw [List.length_set]; exact hs2, inQ_snoc hq2 hin, by simp only [List.length_append, List.length_cons, List.length_nil]; omega, by rw [get_snoc hi2]; exact ht2, by simp only [List.length_append, List.length_cons, List.length_nil]; omega, hX2⟩ (by dsimp only; omega) rfl rfl ?_
            conv => whnf
            refine ⟨rfl, leaf_i ?_⟩
            repeat' ((with_reducible refine And.intro ?_ ?_) <;> (try (conv => whnf)))
            all_goals (try (first | with_reducible rfl | exact True.intro | rfl | exact id | exact fun h => h | exact fun _ => rfl))
            all_goals (try (first | rfl | exact wrapS (by omega)))
          · have hk' : k < (lsT g q i).length := lt_t (by assumption)
            have hkb : k < 64 := by have h64 : (lsT g q i).length ≤ 64 := hto; omega
            have hst : stayB least (nd g (ptN g q i k)) = true := not_stay (by assumption)
            have hd : nxt g least (ptN g q i k) (getE tI q i).1 = IntKind.i64.wrap (IntKind.i64.wrap (2 * ptN g q i k) + 1) := by
              rw [nxt_t (eq_of_beq (show ((nd g (ptN g q i k)).dep == least) = true by assumption)), nx2_eq]
            rw [drop_get _ hk', bfsI_cons, if_pos hst, hd] at hX2
            have he : ((IntKind.i64.wrap (IntKind.i64.wrap (2 * ptN g q i k) + 1)) == IntKind.i64.wrap (IntKind.i64.wrap (2 * fr) + 1)) = false := by assumption
            have hsn : (!(getE tB s2 (IntKind.i64.wrap (IntKind.i64.wrap (2 * ptN g q i k) + 1)).toNat).1) = false := by assumption
            rw [if_neg (by rw [nx2_eq]; exact ne_of_beq_false he), if_pos (by simpa using hsn)] at hX2
            refine next_i (k + 1, s2, q2) ⟨hk', hs2, hq2, hi2, ht2, hc2, hX2⟩ (by dsimp only; omega) rfl rfl ?_
            conv => whnf
            refine ⟨rfl, leaf_i ?_⟩
            repeat' ((with_reducible refine And.intro ?_ ?_) <;> (try (conv => whnf)))
            all_goals (try (first | with_reducible rfl | exact True.intro | rfl | exact id | exact fun h => h | exact fun _ => rfl))
            all_goals (try (first | rfl | exact wrapS (by omega)))
          · have hk' : k < (lsT g q i).length := lt_t (by assumption)
            have hkb : k < 64 := by have h64 : (lsT g q i).length ≤ 64 := hto; omega
            have hst : stayB least (nd g (ptN g q i k)) = true := not_stay (by assumption)
            have hd : nxt g least (ptN g q i k) (getE tI q i).1 = IntKind.i64.wrap (IntKind.i64.wrap (2 * ptN g q i k) + (getE tI q i).1.tmod 2) := by
              rw [nxt_f (ne_of_beq_false (show ((nd g (ptN g q i k)).dep == least) = false by assumption)), nx1_eq]
            rw [drop_get _ hk', bfsI_cons, if_pos hst, hd] at hX2
            have ht3 : (getE tI q2 ((i : Nat) : Int).toNat).1 = (getE tI q i).1 := by rw [← ht2]; rfl
            have he : ((IntKind.i64.wrap (IntKind.i64.wrap (2 * ptN g q i k) + (getE tI q i).1.tmod 2)) == IntKind.i64.wrap (IntKind.i64.wrap (2 * fr) + 1)) = true := by rw [← ht3]; assumption
            rw [if_pos (by rw [nx2_eq]; exact eq_of_beq he)] at hX2
            rw [← hX2] at hb
            all_goals ((with_reducible refine leaf_i ?_); (conv => whnf))
            repeat' ((with_reducible refine And.intro ?_ ?_) <;> (try (conv => whnf)))
            all_goals (try (first | with_reducible rfl | exact True.intro | rfl | exact id | exact fun h => h | exact fun _ => rfl))
            all_goals exact hb
          · have hk' : k < (lsT g q i).length := lt_t (by assumption)
            have hkb : k < 64 := by have h64 : (lsT g q i).length ≤ 64 := hto; omega
            have hst : stayB least (nd g (ptN g q i k)) = true := not_stay (by assumption)
            have hd : nxt g least (ptN g q i k) (getE tI q i).1 = IntKind.i64.wrap (IntKind.i64.wrap (2 * ptN g q i k) + (getE tI q i).1.tmod 2) := by
              rw [nxt_f (ne_of_beq_false (show ((nd g (ptN g q i k)).dep == least) = false by assumption)), nx1_eq]
            rw [drop_get _ hk', bfsI_cons, if_pos hst, hd] at hX2
            have ht3 : (getE tI q2 ((i : Nat) : Int).toNat).1 = (getE tI q i).1 := by rw [← ht2]; rfl
            have he : ((IntKind.i64.wrap (IntKind.i64.wrap (2 * ptN g q i k) + (getE tI q i).1.tmod 2)) == IntKind.i64.wrap (IntKind.i64.wrap (2 * fr) + 1)) = false := by rw [← ht3]; assumption
            have hsn : (!(getE tB s2 (IntKind.i64.wrap (IntKind.i64.wrap (2 * ptN g q i k) + (getE tI q i).1.tmod 2)).toNat).1) = true := by rw [← ht3]; assumption
            have hin : 0 ≤ (IntKind.i64.wrap (IntKind.i64.wrap (2 * ptN g q i k) + (getE tI q i).1.tmod 2)) ∧ (IntKind.i64.wrap (IntKind.i64.wrap (2 * ptN g q i k) + (getE tI q i).1.tmod 2)) < 2 * (g.length : Int) := by have := hn1 (by assumption); rw [ht2, nx1_eq] at this; exact this
            have hfs : (getE tB s2 (IntKind.i64.wrap (IntKind.i64.wrap (2 * ptN g q i k) + (getE tI q i).1.tmod 2)).toNat).1 = false := by simpa using hsn
            have hcs := cntF_set s2 (IntKind.i64.wrap (IntKind.i64.wrap (2 * ptN g q i k) + (getE tI q i).1.tmod 2)).toNat (by omega) hfs
            rw [if_neg (by rw [nx2_eq]; exact ne_of_beq_false he), if_neg (by rw [hfs]; simp)] at hX2
            refine next_i (k + 1, s2.set (IntKind.i64.wrap (IntKind.i64.wrap (2 * ptN g q i k) + (getE tI q i).1.tmod 2)).toNat (true, ()), q2 ++ [((IntKind.i64.wrap (IntKind.i64.wrap (2 * ptN g q i k) + (getE tI q i).1.tmod 2)), ())]) ⟨hk', by rw [List.length_set]; exact hs2, inQ_snoc hq2 hin, by simp only [List.length_append, List.length_cons, List.length_nil]; omega, by rw [get_snoc hi2]; exact ht2, by simp only [List.length_append, List.length_cons, List.length_nil]; omega, hX2⟩ (by dsimp only; omega) rfl rfl ?_
            conv => whnf
            refine ⟨rfl, leaf_i ?_⟩
            repeat' ((with_reducible refine And.intro ?_ ?_) <;> (try (conv => whnf)))
            all_goals (try (first | with_reducible rfl | exact True.intro | rfl | exact id | exact fun h => h | exact fun _ => rfl))
            all_goals (try (first | rfl | exact wrapS (by omega)))
            all_goals (try (first | exact congrArg (fun z : Int => s2.set (IntKind.i64.wrap (IntKind.i64.wrap (2 * ptN g q i k) + z.tmod 2)).toNat (true, ())) ht3 | exact congrArg (fun z : Int => q2 ++ [(IntKind.i64.wrap (IntKind.i64.wrap (2 * ptN g q i k) + z.tmod 2), ())]) ht3 | (show (q2 ++ [_]).length = (q2 ++ [_]).length; rw [List.length_append, List.length_append]; rfl)))
          · have hk' : k < (lsT g q i).length := lt_t (by assumption)
            have hkb : k < 64 := by have h64 : (lsT g q i).length ≤ 64 := hto; omega
            have hst : stayB least (nd g (ptN g q i k)) = true := not_stay (by assumption)
            have hd : nxt g least (ptN g q i k) (getE tI q i).1 = IntKind.i64.wrap (IntKind.i64.wrap (2 * ptN g q i k) + (getE tI q i).1.tmod 2) := by
              rw [nxt_f (ne_of_beq_false (show ((nd g (ptN g q i k)).dep == least) = false by assumption)), nx1_eq]
            rw [drop_get _ hk', bfsI_cons, if_pos hst, hd] at hX2
            have ht3 : (getE tI q2 ((i : Nat) : Int).toNat).1 = (getE tI q i).1 := by rw [← ht2]; rfl
            have he : ((IntKind.i64.wrap (IntKind.i64.wrap (2 * ptN g q i k) + (getE tI q i).1.tmod 2)) == IntKind.i64.wrap (IntKind.i64.wrap (2 * fr) + 1)) = false := by rw [← ht3]; assumption
            have hsn : (!(getE tB s2 (IntKind.i64.wrap (IntKind.i64.wrap (2 * ptN g q i k) + (getE tI q i).1.tmod 2)).toNat).1) = false := by rw [← ht3]; assumption
            rw [if_neg (by rw [nx2_eq]; exact ne_of_beq_false he), if_pos (by simpa using hsn)] at hX2
            refine next_i (k + 1, s2, q2) ⟨hk', hs2, hq2, hi2, ht2, hc2, hX2⟩ (by dsimp only; omega) rfl rfl ?_
            conv => whnf
            refine ⟨rfl, leaf_i ?_⟩
            repeat' ((with_reducible refine And.intro ?_ ?_) <;> (try (conv => whnf)))
            all_goals (try (first | with_reducible rfl | exact True.intro | rfl | exact id | exact fun h => h | exact fun _ => rfl))
            all_goals (try (first | rfl | exact wrapS (by omega)))
          · have hk' : (lsT g q i).length ≤ k := lt_f (by assumption)
            rw [List.drop_eq_nil_of_le hk', bfsI_nil] at hX2
            rw [← hX2] at hb
            refine next_i (i + 1, s2, q2) ⟨hs2, hq2, hi2, hc2, by rw [show 2 * g.length + 2 - (i + 1) = 2 * g.length + 1 - i by omega]; exact hb⟩ (by dsimp only; omega) rfl rfl ?_
            conv => whnf
            refine ⟨rfl, leaf_i ?_⟩
            repeat' ((with_reducible refine And.intro ?_ ?_) <;> (try (conv => whnf)))
            all_goals (try (first | with_reducible rfl | exact True.intro | rfl | exact id | exact fun h => h | exact fun _ => rfl))
            all_goals (try (first | rfl | exact wrapS (by omega)))
      · have hi' : q.length ≤ i := lt_f h
        rw [show 2 * g.length + 2 - i = (2 * g.length + 1 - i) + 1 by omega, bfsO_s, if_neg (by omega)] at hb
        all_goals ((with_reducible refine leaf_i ?_); (conv => whnf))
        repeat' ((with_reducible refine And.intro ?_ ?_) <;> (try (conv => whnf)))
        all_goals (try (first | with_reducible rfl | exact True.intro | rfl | exact id | exact fun h => h | exact fun _ => rfl))
        all_goals exact hb
end Go.Proofs.Ytbgcgokikekmoaa
