/- Parts of the proof, joined: no conditions of their own. -/
import Derived.Test.YtbgcgokikekmoaaG08
/- Layer 10: the statement CheckMore. -/
namespace Go.Proofs.Ytbgcgokikekmoaa
set_option maxRecDepth 100000
open Go Go.RowKit Go.Proofs.Ytbgcgokikekmoaa.Eng
theorem check_len {g : List Nd} (h : (checkG g).2 = 0) : (checkG g).1 = (g.length : Int) := by
  by_cases h0 : (putG g).2 ≠ 0
  · rw [check_put h0] at h; exact absurd h h0
  · cases hb : badL g 0 g with
    | some i =>
      rw [check_bad h0 hb] at h
      obtain ⟨_, hn, _⟩ := check_parts (g := g) (by rw [check_bad h0 hb]; exact h)
      have := badL_none (g := g) g.length 0 (by omega) hn
      rw [List.drop_zero, hb] at this; cases this
    | none =>
      by_cases hs : stuckG g < g.length
      · rw [check_cyc h0 hb hs] at h; cases h
      · rw [check_ok h0 hb hs]
def mOut (g : List Nd) (fr : Int) : Bool := bif (bif (bif ((checkG g).2 != 0) then true else decide (fr < 0)) then true else decide (fr ≥ (g.length : Int))) then true else ((getE tN g fr.toNat).1 == 10)
theorem out_rng {c : Int} {fr : Int} {n : Nat} (h : ((bif (bif (c != 0) then true else decide (fr < 0)) then true else decide (fr ≥ (n : Int))) == false) = true) : 0 ≤ fr ∧ fr < (n : Int) := by
  have h := eq_of_beq h
  cases h1 : (c != 0) with
  | true => rw [h1] at h; cases h
  | false =>
    rw [h1] at h
    cases h2 : decide (fr < 0) with
    | true => rw [h2] at h; cases h
    | false =>
      rw [h2] at h
      have := of_decide_eq_false h2
      have := of_decide_eq_false h
      omega
theorem out_ok {g : List Nd} {fr : Int} (h : mOut g fr = false) : (checkG g).2 = 0 ∧ (0 ≤ fr ∧ fr < (g.length : Int)) ∧ (nd g fr).kind ≠ 10 := by
  unfold mOut at h
  cases h1 : (bif (bif ((checkG g).2 != 0) then true else decide (fr < 0)) then true else decide (fr ≥ (g.length : Int))) with
  | true => rw [h1] at h; cases h
  | false =>
    rw [h1] at h
    refine ⟨?_, out_rng (by rw [h1]; rfl), ne_of_beq_false h⟩
    cases h2 : ((checkG g).2 != 0) with
    | true => rw [h2] at h1; cases h1
    | false => simpa using h2
attribute [local irreducible] checkG rcheckG orderC rorderC orderG
def mBad (g h : List Nd) : Bool := bif (bif (bif ((checkG h).1 != IntKind.i64.wrap ((checkG g).1 + 1)) then true else ((checkG h).2 != 0)) then true else ((orderC h).2 != 0)) then true else (((orderC h).1.length : Int) != IntKind.i64.wrap ((checkG g).1 + 1))
theorem more_ok {g : List Nd} {k d fr : Int} (h : (checkG g).2 = 0) (hl : g.length ≤ 30) (hfr : 0 ≤ fr ∧ fr < (g.length : Int)) (hnk : (nd g fr).kind ≠ 10)
    (hk : k = 2 ∨ k = 3 ∨ k = 5 ∨ k = 8 ∨ k = 10) (hd : d = if k = 8 then (nd g fr).dep - 1 else (nd g fr).dep) (hr : (k = 8 → 0 ≤ d) ∧ (k = 10 → d = 0)) :
    checkG (g ++ [newN k d fr]) = ((g.length : Int) + 1, 0) ∧ orderC g = (orderG g, 0) ∧ orderC (g ++ [newN k d fr]) = (orderG g ++ [((g.length : Int), ())], 0) ∧ mBad g (g ++ [newN k d fr]) = false ∧ (orderG g).length = g.length := by
  have h1 := check_more h hl hfr hnk hk hd hr
  have h2 : orderC g = (orderG g, 0) := by unfold orderC; rw [if_neg (by rw [h]; decide)]
  have h3 : orderC (g ++ [newN k d fr]) = (orderG g ++ [((g.length : Int), ())], 0) := by
    unfold orderC; rw [if_neg (by rw [h1]; simp), order_more h hfr]
  have h4 := (order_ok h).1
  refine ⟨h1, h2, h3, ?_, h4⟩
  unfold mBad
  rw [h1, h3, check_len h, wrapI (by omega) (by omega), List.length_append, h4]
  simp
theorem ord_at {g : List Nd} (h : (checkG g).2 = 0) {c : Nat} (hc : c < g.length) : getE tI (orderG g ++ [((g.length : Int), ())]) c = getE tI (orderG g) c ∧ (getE tI (orderG g) c).1 ≠ (g.length : Int) := by
  have ho := order_ok h
  obtain ⟨m, hm, hmn, _⟩ := ho.2 c hc
  refine ⟨?_, by omega⟩
  unfold getE
  rw [List.getD_eq_getElem?_getD, List.getD_eq_getElem?_getD, List.getElem?_append_left (by rw [ho.1]; exact hc)]
theorem ord_last {g : List Nd} (h : (checkG g).2 = 0) : getE tI (orderG g ++ [((g.length : Int), ())]) g.length = ((g.length : Int), ()) := by
  have ho := order_ok h
  unfold getE
  rw [List.getD_eq_getElem?_getD, List.getElem?_append_right (by rw [ho.1]; exact Nat.le_refl _), ho.1]
  simp
theorem wrong_ok {x : Int} (h : x ≠ 0) : (bif (bif (bif true then true else false) then (x != 0) else false) then true else false) = true := by simpa using h
def k_lmore : Sig := .arg (shR tN) fun g => .arg (shK .u8) fun kd => .arg shI fun fr => .done { pre := 0 ≤ kd, res := B true }
set_option maxHeartbeats 16000000 in
theorem c_lmore : FnOk Try.prog 6 k_lmore.con := by
  refine fnOkS mixed tys_ok (cs := [(9, k_ins.con), (10, k_works.con), (11, k_own2.con), (15, k_check.con), (16, k_rcheck.con), (17, k_Order.con)]) ⟨c_ins, c_works, c_own2, c_check, c_rcheck, c_Order, trivial⟩ Try.func6 rfl (by kernel_rfl) Try.ntmps6 _ (ms := [11]) (fz := true) (h := ?_)
  intro g kd fr
  refine ⟨rfl, fun hkd => ?_⟩
  have hkd : 0 ≤ kd := hkd
  conv => whnf
  repeat' ((first
    | with_reducible refine ⟨fun h => h, ?_⟩
    | with_reducible refine ⟨pk1, ?_⟩
    | with_reducible refine ⟨pk2, ?_⟩
    | with_reducible refine ⟨pk3, ?_⟩
    | with_reducible refine ⟨pk4, ?_⟩
    | with_reducible refine ⟨pk5, ?_⟩
    | with_reducible refine ⟨pk6, ?_⟩
    | with_reducible refine ⟨trivial, ?_⟩
    | with_reducible refine ⟨fun _ => trivial, ?_⟩
    | with_reducible refine ⟨rfl, ?_⟩
    | with_reducible refine every_i (fun hd => ?_)
    | with_reducible refine everyN_i (fun k hk => ?_)
    | with_reducible refine everyD_i (fun d hd => ?_)
    | with_reducible refine fork_t (by assumption) ?_
    | with_reducible refine fork_f (by assumption) ?_
    | refine fork_t rfl ?_
    | refine fork_f rfl ?_
    | with_reducible refine fork_i (fun h => ?_) (fun h => ?_)
    | with_reducible refine both_i ?_ ?_
    | ((with_reducible refine alike_i ?_); exact ⟨rfl, rfl, rfl⟩)
    | ((with_reducible refine fin_i ?_); (conv => whnf); refine ⟨rfl, ?_⟩)
    | refine ⟨of_decide_eq_true rfl, ?_⟩
    | refine ⟨fun _ => of_decide_eq_true rfl, ?_⟩
    | ((with_reducible refine ⟨?_, ?_⟩); (focus (intros; simp_all; done)))
    | ((with_reducible refine ⟨?_, ?_⟩); (focus (intros; omega)))) <;> (try (conv => whnf)))
  · all_goals ((with_reducible refine leaf_i ?_); (conv => whnf))
    repeat' ((with_reducible refine And.intro ?_ ?_) <;> (try (conv => whnf)))
    all_goals (try (first | with_reducible rfl | exact True.intro | rfl | exact id | exact fun h => h | exact fun _ => rfl))
  · have hb : insG g 30 = true := by
      have h' : (!insG g 30) = false := h
      simpa using h'
    obtain ⟨hf, hl, hx⟩ := ins_fit hb (by decide)
    have hw := ins_wide hb (by decide)
    have hl30 := (insG_spec hb).1
    have hix : ((bif (bif ((checkG g).2 != 0) then true else decide (fr < 0)) then true else decide (fr ≥ (g.length : Int))) == false) = true → 0 ≤ fr ∧ fr < (g.length : Int) := out_rng
    conv => whnf
    repeat' ((first
      | with_reducible refine ⟨fun h => h, ?_⟩
      | with_reducible refine ⟨pk1, ?_⟩
      | with_reducible refine ⟨pk2, ?_⟩
      | with_reducible refine ⟨pk3, ?_⟩
      | with_reducible refine ⟨pk4, ?_⟩
      | with_reducible refine ⟨pk5, ?_⟩
      | with_reducible refine ⟨pk6, ?_⟩
      | with_reducible refine ⟨trivial, ?_⟩
      | with_reducible refine ⟨fun _ => trivial, ?_⟩
      | with_reducible refine ⟨rfl, ?_⟩
      | with_reducible refine every_i (fun hd => ?_)
      | with_reducible refine everyN_i (fun k hk => ?_)
      | with_reducible refine everyD_i (fun d hd => ?_)
      | with_reducible refine fork_t (by assumption) ?_
      | with_reducible refine fork_f (by assumption) ?_
      | refine fork_t rfl ?_
      | refine fork_f rfl ?_
      | with_reducible refine fork_i (fun h => ?_) (fun h => ?_)
      | with_reducible refine both_i ?_ ?_
      | ((with_reducible refine alike_i ?_); exact ⟨rfl, rfl, rfl⟩)
      | ((with_reducible refine fin_i ?_); (conv => whnf); refine ⟨rfl, ?_⟩)
      | refine ⟨hw, ?_⟩
      | refine ⟨hix, ?_⟩
      | refine ⟨of_decide_eq_true rfl, ?_⟩
      | refine ⟨fun _ => of_decide_eq_true rfl, ?_⟩
      | ((with_reducible refine ⟨?_, ?_⟩); (focus (intros; simp_all; done)))
      | ((with_reducible refine ⟨?_, ?_⟩); (focus (intros; omega)))) <;> (try (conv => whnf)))
    · all_goals ((with_reducible refine leaf_i ?_); (conv => whnf))
      repeat' ((with_reducible refine And.intro ?_ ?_) <;> (try (conv => whnf)))
      all_goals (try (first | with_reducible rfl | exact True.intro | rfl | exact id | exact fun h => h | exact fun _ => rfl))
    · obtain ⟨hc, hfr, hnk⟩ := out_ok (g := g) (fr := fr) (by assumption)
      have hcl := check_len hc
      have hlo := (order_ok hc).1
      have hlen : ∀ x : Nd, (g ++ [x]).length ≤ 1000000000 := fun x => by simp only [List.length_append, List.length_cons, List.length_nil]; omega
      have hfd : ∀ n : Nd, (Nd.ins n).length ≤ 1 → fitG (g ++ [n]) := fun n hn => ⟨by have := hlen n; omega, fun y hy => by
        rcases List.mem_append.1 hy with hy | hy
        · have := hx y hy; omega
        · rw [List.mem_singleton.1 hy]; omega⟩
      generalize hj : kd.tmod 5 = j
      have hj5 : j = 0 ∨ j = 1 ∨ j = 2 ∨ j = 3 ∨ j = 4 := by
        rw [← hj, Int.tmod_eq_emod_of_nonneg hkd]; omega
      have hown : g.length ≤ 1000000000 ∧ ∀ x : Nd, x ∈ g → (Nd.ins x).length ≤ 1000000000 := ⟨by omega, fun x hm => Nat.le_trans (hx x hm) (by decide)⟩
      have hwd : ∀ n : Nd, (Nd.ins n).length ≤ 1 → wide (g ++ [n]) := fun n hn => ⟨by have := hlen n; omega, fun y hy => by
        rcases List.mem_append.1 hy with hy | hy
        · exact hw.2 y hy
        · rw [List.mem_singleton.1 hy]; omega⟩
      rcases hj5 with rfl | rfl | rfl | rfl | rfl
      · obtain ⟨hC, hO, hO2, hno, _⟩ := more_ok (k := 2) (d := (nd g fr).dep) hc (by omega) hfr hnk (by decide) (by simp) (by simp)
        conv => whnf
        repeat' ((first
          | refine fork_f hno ?_
          | with_reducible refine ⟨fun h => h, ?_⟩
          | with_reducible refine ⟨pk1, ?_⟩
          | with_reducible refine ⟨pk2, ?_⟩
          | with_reducible refine ⟨pk3, ?_⟩
          | with_reducible refine ⟨pk4, ?_⟩
          | with_reducible refine ⟨pk5, ?_⟩
          | with_reducible refine ⟨pk6, ?_⟩
          | with_reducible refine ⟨trivial, ?_⟩
          | with_reducible refine ⟨fun _ => trivial, ?_⟩
          | with_reducible refine ⟨rfl, ?_⟩
          | with_reducible refine every_i (fun hd => ?_)
          | with_reducible refine everyN_i (fun k hk => ?_)
          | with_reducible refine everyD_i (fun d hd => ?_)
          | with_reducible refine fork_t (by assumption) ?_
          | with_reducible refine fork_f (by assumption) ?_
          | refine fork_t rfl ?_
          | refine fork_f rfl ?_
          | with_reducible refine fork_i (fun h => ?_) (fun h => ?_)
          | with_reducible refine both_i ?_ ?_
          | ((with_reducible refine alike_i ?_); exact ⟨rfl, rfl, rfl⟩)
          | ((with_reducible refine fin_i ?_); (conv => whnf); refine ⟨rfl, ?_⟩)
          | refine ⟨hfr, ?_⟩
          | refine ⟨hown, ?_⟩
          | refine ⟨hlen _, ?_⟩
          | refine ⟨hwd _ (Nat.le_refl 1), ?_⟩
          | refine ⟨hw, ?_⟩
          | refine ⟨of_decide_eq_true rfl, ?_⟩
          | refine ⟨fun _ => of_decide_eq_true rfl, ?_⟩
          | ((with_reducible refine ⟨?_, ?_⟩); (focus (intros; simp_all; done)))
          | ((with_reducible refine ⟨?_, ?_⟩); (focus (intros; omega)))) <;> (try (conv => whnf)))
        all_goals (
          refine only [] ?_
          (conv => whnf)
          refine looped (σ := Nat × Nat) (fun c => [(21, I c.1), (20, I c.2), (18, .rl true tI (orderG g ++ [((g.length : Int), ())])), (16, .rl true tI (orderG g)), (7, I g.length)]) (fun _ => []) (fun c => c.1 ≤ g.length + 1 ∧ c.2 = Nat.min c.1 g.length) (fun c => g.length + 1 - c.1) (0, 0) ⟨Nat.zero_le _, (Nat.zero_min _).symm⟩ ?_ ?_)
        · conv => whnf
          refine ⟨rfl, leaf_i ?_⟩
          repeat' ((with_reducible refine And.intro ?_ ?_) <;> (try (conv => whnf)))
          all_goals (try (first | with_reducible rfl | exact True.intro | rfl | exact id | exact fun h => h | exact fun _ => rfl))
          all_goals (first | exact congrArg Prod.fst hO2 | exact congrArg Prod.fst hO | exact hcl | trace_state)
        · rintro ⟨c, k⟩ ⟨hc1, hk⟩
          dsimp only at hc1 hk ⊢
          have hlb : ((orderG g ++ [((g.length : Int), ())]).length : Int) = (g.length : Int) + 1 := by rw [List.length_append, hlo]; simp
          have hib : decide ((c : Int) < ((orderG g ++ [((g.length : Int), ())]).length : Int)) = true → 0 ≤ (c : Int) ∧ (c : Int) < ((orderG g ++ [((g.length : Int), ())]).length : Int) := fun h => ⟨by omega, of_decide_eq_true h⟩
          rcases Nat.lt_trichotomy c g.length with h1 | h1 | h1
          · have hk : k = c := by rw [hk]; exact Nat.min_eq_left (by omega)
            subst hk
            obtain ⟨e1, e2⟩ := ord_at hc h1
            have hne : ((getE tI (orderG g ++ [((g.length : Int), ())]) (k : Int).toNat).1 == (g.length : Int)) = false := by
              rw [show (k : Int).toNat = k from rfl, e1]; exact beq_false_of_ne e2
            have hlt : decide ((k : Int) < ((orderG g ++ [((g.length : Int), ())]).length : Int)) = true := decide_eq_true (by omega)
            have hka : decide ((k : Int) ≥ ((orderG g).length : Int)) = false := decide_eq_false (by omega)
            have hia : 0 ≤ (k : Int) ∧ (k : Int) < ((orderG g).length : Int) := by omega
            have hbad : (bif decide ((k : Int) ≥ ((orderG g).length : Int)) then true else ((getE tI (orderG g) (k : Int).toNat).1 != (getE tI (orderG g ++ [((g.length : Int), ())]) (k : Int).toNat).1)) = false := by
              rw [hka, show (k : Int).toNat = k from rfl, e1]; simp
            conv => whnf
            repeat' ((first
              | refine fork_t hlt ?_
              | refine fork_f hne ?_
              | refine fork_f hbad ?_
              | with_reducible refine ⟨fun h => h, ?_⟩
              | with_reducible refine ⟨pk1, ?_⟩
              | with_reducible refine ⟨pk2, ?_⟩
              | with_reducible refine ⟨pk3, ?_⟩
              | with_reducible refine ⟨pk4, ?_⟩
              | with_reducible refine ⟨pk5, ?_⟩
              | with_reducible refine ⟨pk6, ?_⟩
              | with_reducible refine ⟨trivial, ?_⟩
              | with_reducible refine ⟨fun _ => trivial, ?_⟩
              | with_reducible refine ⟨rfl, ?_⟩
              | with_reducible refine every_i (fun hd => ?_)
              | with_reducible refine everyN_i (fun k hk => ?_)
              | with_reducible refine everyD_i (fun d hd => ?_)
              | with_reducible refine fork_t (by assumption) ?_
              | with_reducible refine fork_f (by assumption) ?_
              | refine fork_t rfl ?_
              | refine fork_f rfl ?_
              | with_reducible refine fork_i (fun h => ?_) (fun h => ?_)
              | with_reducible refine both_i ?_ ?_
              | ((with_reducible refine alike_i ?_); exact ⟨rfl, rfl, rfl⟩)
              | ((with_reducible refine fin_i ?_); (conv => whnf); refine ⟨rfl, ?_⟩)
              | refine ⟨hib hlt, ?_⟩
              | refine ⟨fun _ => hia, ?_⟩
              | refine ⟨fun _ => hib hlt, ?_⟩
              | refine ⟨of_decide_eq_true rfl, ?_⟩
              | refine ⟨fun _ => of_decide_eq_true rfl, ?_⟩
              | ((with_reducible refine ⟨?_, ?_⟩); (focus (intros; simp_all; done)))
              | ((with_reducible refine ⟨?_, ?_⟩); (focus (intros; omega)))) <;> (try (conv => whnf)))
            refine next_i (k + 1, k + 1) ⟨by dsimp only; omega, (Nat.min_eq_left (by omega)).symm⟩ (by dsimp only; omega) rfl rfl ?_
            conv => whnf
            refine ⟨rfl, leaf_i ?_⟩
            repeat' ((with_reducible refine And.intro ?_ ?_) <;> (try (conv => whnf)))
            all_goals (try (first | with_reducible rfl | exact True.intro | rfl | exact id | exact fun h => h | exact fun _ => rfl))
            all_goals (first | rfl | exact wrapS (by omega) | trace_state)
          · have hk : k = c := by rw [hk]; exact Nat.min_eq_left (by omega)
            subst hk
            have hlt : decide ((k : Int) < ((orderG g ++ [((g.length : Int), ())]).length : Int)) = true := decide_eq_true (by omega)
            have hne : ((getE tI (orderG g ++ [((g.length : Int), ())]) (k : Int).toNat).1 == (g.length : Int)) = true := by
              rw [show (k : Int).toNat = k from rfl, h1, ord_last hc]; simp
            conv => whnf
            repeat' ((first
              | refine fork_t hlt ?_
              | refine fork_t hne ?_
              | with_reducible refine ⟨fun h => h, ?_⟩
              | with_reducible refine ⟨pk1, ?_⟩
              | with_reducible refine ⟨pk2, ?_⟩
              | with_reducible refine ⟨pk3, ?_⟩
              | with_reducible refine ⟨pk4, ?_⟩
              | with_reducible refine ⟨pk5, ?_⟩
              | with_reducible refine ⟨pk6, ?_⟩
              | with_reducible refine ⟨trivial, ?_⟩
              | with_reducible refine ⟨fun _ => trivial, ?_⟩
              | with_reducible refine ⟨rfl, ?_⟩
              | with_reducible refine every_i (fun hd => ?_)
              | with_reducible refine everyN_i (fun k hk => ?_)
              | with_reducible refine everyD_i (fun d hd => ?_)
              | with_reducible refine fork_t (by assumption) ?_
              | with_reducible refine fork_f (by assumption) ?_
              | refine fork_t rfl ?_
              | refine fork_f rfl ?_
              | with_reducible refine fork_i (fun h => ?_) (fun h => ?_)
              | with_reducible refine both_i ?_ ?_
              | ((with_reducible refine alike_i ?_); exact ⟨rfl, rfl, rfl⟩)
              | ((with_reducible refine fin_i ?_); (conv => whnf); refine ⟨rfl, ?_⟩)
              | refine ⟨hib hlt, ?_⟩
              | refine ⟨of_decide_eq_true rfl, ?_⟩
              | refine ⟨fun _ => of_decide_eq_true rfl, ?_⟩
              | ((with_reducible refine ⟨?_, ?_⟩); (focus (intros; simp_all; done)))
              | ((with_reducible refine ⟨?_, ?_⟩); (focus (intros; omega)))) <;> (try (conv => whnf)))
            refine next_i (k + 1, k) ⟨by dsimp only; omega, h1.trans (Nat.min_eq_right (by omega)).symm⟩ (by dsimp only; omega) rfl rfl ?_
            conv => whnf
            refine ⟨rfl, leaf_i ?_⟩
            repeat' ((with_reducible refine And.intro ?_ ?_) <;> (try (conv => whnf)))
            all_goals (try (first | with_reducible rfl | exact True.intro | rfl | exact id | exact fun h => h | exact fun _ => rfl))
            all_goals (first | rfl | exact wrapS (by omega) | trace_state)
          · have hlt : decide ((c : Int) < ((orderG g ++ [((g.length : Int), ())]).length : Int)) = false := decide_eq_false (by omega)
            conv => whnf
            repeat' ((first
              | refine fork_f hlt ?_
              | with_reducible refine ⟨fun h => h, ?_⟩
              | with_reducible refine ⟨pk1, ?_⟩
              | with_reducible refine ⟨pk2, ?_⟩
              | with_reducible refine ⟨pk3, ?_⟩
              | with_reducible refine ⟨pk4, ?_⟩
              | with_reducible refine ⟨pk5, ?_⟩
              | with_reducible refine ⟨pk6, ?_⟩
              | with_reducible refine ⟨trivial, ?_⟩
              | with_reducible refine ⟨fun _ => trivial, ?_⟩
              | with_reducible refine ⟨rfl, ?_⟩
              | with_reducible refine every_i (fun hd => ?_)
              | with_reducible refine everyN_i (fun k hk => ?_)
              | with_reducible refine everyD_i (fun d hd => ?_)
              | with_reducible refine fork_t (by assumption) ?_
              | with_reducible refine fork_f (by assumption) ?_
              | refine fork_t rfl ?_
              | refine fork_f rfl ?_
              | with_reducible refine fork_i (fun h => ?_) (fun h => ?_)
              | with_reducible refine both_i ?_ ?_
              | ((with_reducible refine alike_i ?_); exact ⟨rfl, rfl, rfl⟩)
              | ((with_reducible refine fin_i ?_); (conv => whnf); refine ⟨rfl, ?_⟩)
              | refine ⟨of_decide_eq_true rfl, ?_⟩
              | refine ⟨fun _ => of_decide_eq_true rfl, ?_⟩
              | ((with_reducible refine ⟨?_, ?_⟩); (focus (intros; simp_all; done)))
              | ((with_reducible refine ⟨?_, ?_⟩); (focus (intros; omega)))) <;> (try (conv => whnf)))
            all_goals ((with_reducible refine leaf_i ?_); (conv => whnf))
            repeat' ((with_reducible refine And.intro ?_ ?_) <;> (try (conv => whnf)))
            all_goals (try (first | with_reducible rfl | exact True.intro | rfl | exact id | exact fun h => h | exact fun _ => rfl))
      · obtain ⟨hC, hO, hO2, hno, _⟩ := more_ok (k := 3) (d := (nd g fr).dep) hc (by omega) hfr hnk (by decide) (by simp) (by simp)
        conv => whnf
        repeat' ((first
          | refine fork_f hno ?_
          | with_reducible refine ⟨fun h => h, ?_⟩
          | with_reducible refine ⟨pk1, ?_⟩
          | with_reducible refine ⟨pk2, ?_⟩
          | with_reducible refine ⟨pk3, ?_⟩
          | with_reducible refine ⟨pk4, ?_⟩
          | with_reducible refine ⟨pk5, ?_⟩
          | with_reducible refine ⟨pk6, ?_⟩
          | with_reducible refine ⟨trivial, ?_⟩
          | with_reducible refine ⟨fun _ => trivial, ?_⟩
          | with_reducible refine ⟨rfl, ?_⟩
          | with_reducible refine every_i (fun hd => ?_)
          | with_reducible refine everyN_i (fun k hk => ?_)
          | with_reducible refine everyD_i (fun d hd => ?_)
          | with_reducible refine fork_t (by assumption) ?_
          | with_reducible refine fork_f (by assumption) ?_
          | refine fork_t rfl ?_
          | refine fork_f rfl ?_
          | with_reducible refine fork_i (fun h => ?_) (fun h => ?_)
          | with_reducible refine both_i ?_ ?_
          | ((with_reducible refine alike_i ?_); exact ⟨rfl, rfl, rfl⟩)
          | ((with_reducible refine fin_i ?_); (conv => whnf); refine ⟨rfl, ?_⟩)
          | refine ⟨hfr, ?_⟩
          | refine ⟨hown, ?_⟩
          | refine ⟨hlen _, ?_⟩
          | refine ⟨hwd _ (Nat.le_refl 1), ?_⟩
          | refine ⟨hw, ?_⟩
          | refine ⟨of_decide_eq_true rfl, ?_⟩
          | refine ⟨fun _ => of_decide_eq_true rfl, ?_⟩
          | ((with_reducible refine ⟨?_, ?_⟩); (focus (intros; simp_all; done)))
          | ((with_reducible refine ⟨?_, ?_⟩); (focus (intros; omega)))) <;> (try (conv => whnf)))
        all_goals (
          refine only [] ?_
          (conv => whnf)
          refine looped (σ := Nat × Nat) (fun c => [(21, I c.1), (20, I c.2), (18, .rl true tI (orderG g ++ [((g.length : Int), ())])), (16, .rl true tI (orderG g)), (7, I g.length)]) (fun _ => []) (fun c => c.1 ≤ g.length + 1 ∧ c.2 = Nat.min c.1 g.length) (fun c => g.length + 1 - c.1) (0, 0) ⟨Nat.zero_le _, (Nat.zero_min _).symm⟩ ?_ ?_)
        · conv => whnf
          refine ⟨rfl, leaf_i ?_⟩
          repeat' ((with_reducible refine And.intro ?_ ?_) <;> (try (conv => whnf)))
          all_goals (try (first | with_reducible rfl | exact True.intro | rfl | exact id | exact fun h => h | exact fun _ => rfl))
          all_goals (first | exact congrArg Prod.fst hO2 | exact congrArg Prod.fst hO | exact hcl | trace_state)
        · rintro ⟨c, k⟩ ⟨hc1, hk⟩
          dsimp only at hc1 hk ⊢
          have hlb : ((orderG g ++ [((g.length : Int), ())]).length : Int) = (g.length : Int) + 1 := by rw [List.length_append, hlo]; simp
          have hib : decide ((c : Int) < ((orderG g ++ [((g.length : Int), ())]).length : Int)) = true → 0 ≤ (c : Int) ∧ (c : Int) < ((orderG g ++ [((g.length : Int), ())]).length : Int) := fun h => ⟨by omega, of_decide_eq_true h⟩
          rcases Nat.lt_trichotomy c g.length with h1 | h1 | h1
          · have hk : k = c := by rw [hk]; exact Nat.min_eq_left (by omega)
            subst hk
            obtain ⟨e1, e2⟩ := ord_at hc h1
            have hne : ((getE tI (orderG g ++ [((g.length : Int), ())]) (k : Int).toNat).1 == (g.length : Int)) = false := by
              rw [show (k : Int).toNat = k from rfl, e1]; exact beq_false_of_ne e2
            have hlt : decide ((k : Int) < ((orderG g ++ [((g.length : Int), ())]).length : Int)) = true := decide_eq_true (by omega)
            have hka : decide ((k : Int) ≥ ((orderG g).length : Int)) = false := decide_eq_false (by omega)
            have hia : 0 ≤ (k : Int) ∧ (k : Int) < ((orderG g).length : Int) := by omega
            have hbad : (bif decide ((k : Int) ≥ ((orderG g).length : Int)) then true else ((getE tI (orderG g) (k : Int).toNat).1 != (getE tI (orderG g ++ [((g.length : Int), ())]) (k : Int).toNat).1)) = false := by
              rw [hka, show (k : Int).toNat = k from rfl, e1]; simp
            conv => whnf
            repeat' ((first
              | refine fork_t hlt ?_
              | refine fork_f hne ?_
              | refine fork_f hbad ?_
              | with_reducible refine ⟨fun h => h, ?_⟩
              | with_reducible refine ⟨pk1, ?_⟩
              | with_reducible refine ⟨pk2, ?_⟩
              | with_reducible refine ⟨pk3, ?_⟩
              | with_reducible refine ⟨pk4, ?_⟩
              | with_reducible refine ⟨pk5, ?_⟩
              | with_reducible refine ⟨pk6, ?_⟩
              | with_reducible refine ⟨trivial, ?_⟩
              | with_reducible refine ⟨fun _ => trivial, ?_⟩
              | with_reducible refine ⟨rfl, ?_⟩
              | with_reducible refine every_i (fun hd => ?_)
              | with_reducible refine everyN_i (fun k hk => ?_)
              | with_reducible refine everyD_i (fun d hd => ?_)
              | with_reducible refine fork_t (by assumption) ?_
              | with_reducible refine fork_f (by assumption) ?_
              | refine fork_t rfl ?_
              | refine fork_f rfl ?_
              | with_reducible refine fork_i (fun h => ?_) (fun h => ?_)
              | with_reducible refine both_i ?_ ?_
              | ((with_reducible refine alike_i ?_); exact ⟨rfl, rfl, rfl⟩)
              | ((with_reducible refine fin_i ?_); (conv => whnf); refine ⟨rfl, ?_⟩)
              | refine ⟨hib hlt, ?_⟩
              | refine ⟨fun _ => hia, ?_⟩
              | refine ⟨fun _ => hib hlt, ?_⟩
              | refine ⟨of_decide_eq_true rfl, ?_⟩
              | refine ⟨fun _ => of_decide_eq_true rfl, ?_⟩
              | ((with_reducible refine ⟨?_, ?_⟩); (focus (intros; simp_all; done)))
              | ((with_reducible refine ⟨?_, ?_⟩); (focus (intros; omega)))) <;> (try (conv => whnf)))
            refine next_i (k + 1, k + 1) ⟨by dsimp only; omega, (Nat.min_eq_left (by omega)).symm⟩ (by dsimp only; omega) rfl rfl ?_
            conv => whnf
            refine ⟨rfl, leaf_i ?_⟩
            repeat' ((with_reducible refine And.intro ?_ ?_) <;> (try (conv => whnf)))
            all_goals (try (first | with_reducible rfl | exact True.intro | rfl | exact id | exact fun h => h | exact fun _ => rfl))
            all_goals (first | rfl | exact wrapS (by omega) | trace_state)
          · have hk : k = c := by rw [hk]; exact Nat.min_eq_left (by omega)
            subst hk
            have hlt : decide ((k : Int) < ((orderG g ++ [((g.length : Int), ())]).length : Int)) = true := decide_eq_true (by omega)
            have hne : ((getE tI (orderG g ++ [((g.length : Int), ())]) (k : Int).toNat).1 == (g.length : Int)) = true := by
              rw [show (k : Int).toNat = k from rfl, h1, ord_last hc]; simp
            conv => whnf
            repeat' ((first
              | refine fork_t hlt ?_
              | refine fork_t hne ?_
              | with_reducible refine ⟨fun h => h, ?_⟩
              | with_reducible refine ⟨pk1, ?_⟩
              | with_reducible refine ⟨pk2, ?_⟩
              | with_reducible refine ⟨pk3, ?_⟩
              | with_reducible refine ⟨pk4, ?_⟩
              | with_reducible refine ⟨pk5, ?_⟩
              | with_reducible refine ⟨pk6, ?_⟩
              | with_reducible refine ⟨trivial, ?_⟩
              | with_reducible refine ⟨fun _ => trivial, ?_⟩
              | with_reducible refine ⟨rfl, ?_⟩
              | with_reducible refine every_i (fun hd => ?_)
              | with_reducible refine everyN_i (fun k hk => ?_)
              | with_reducible refine everyD_i (fun d hd => ?_)
              | with_reducible refine fork_t (by assumption) ?_
              | with_reducible refine fork_f (by assumption) ?_
              | refine fork_t rfl ?_
              | refine fork_f rfl ?_
              | with_reducible refine fork_i (fun h => ?_) (fun h => ?_)
              | with_reducible refine both_i ?_ ?_
              | ((with_reducible refine alike_i ?_); exact ⟨rfl, rfl, rfl⟩)
              | ((with_reducible refine fin_i ?_); (conv => whnf); refine ⟨rfl, ?_⟩)
              | refine ⟨hib hlt, ?_⟩
              | refine ⟨of_decide_eq_true rfl, ?_⟩
              | refine ⟨fun _ => of_decide_eq_true rfl, ?_⟩
              | ((with_reducible refine ⟨?_, ?_⟩); (focus (intros; simp_all; done)))
              | ((with_reducible refine ⟨?_, ?_⟩); (focus (intros; omega)))) <;> (try (conv => whnf)))
            refine next_i (k + 1, k) ⟨by dsimp only; omega, h1.trans (Nat.min_eq_right (by omega)).symm⟩ (by dsimp only; omega) rfl rfl ?_
            conv => whnf
            refine ⟨rfl, leaf_i ?_⟩
            repeat' ((with_reducible refine And.intro ?_ ?_) <;> (try (conv => whnf)))
            all_goals (try (first | with_reducible rfl | exact True.intro | rfl | exact id | exact fun h => h | exact fun _ => rfl))
            all_goals (first | rfl | exact wrapS (by omega) | trace_state)
          · have hlt : decide ((c : Int) < ((orderG g ++ [((g.length : Int), ())]).length : Int)) = false := decide_eq_false (by omega)
            conv => whnf
            repeat' ((first
              | refine fork_f hlt ?_
              | with_reducible refine ⟨fun h => h, ?_⟩
              | with_reducible refine ⟨pk1, ?_⟩
              | with_reducible refine ⟨pk2, ?_⟩
              | with_reducible refine ⟨pk3, ?_⟩
              | with_reducible refine ⟨pk4, ?_⟩
              | with_reducible refine ⟨pk5, ?_⟩
              | with_reducible refine ⟨pk6, ?_⟩
              | with_reducible refine ⟨trivial, ?_⟩
              | with_reducible refine ⟨fun _ => trivial, ?_⟩
              | with_reducible refine ⟨rfl, ?_⟩
              | with_reducible refine every_i (fun hd => ?_)
              | with_reducible refine everyN_i (fun k hk => ?_)
              | with_reducible refine everyD_i (fun d hd => ?_)
              | with_reducible refine fork_t (by assumption) ?_
              | with_reducible refine fork_f (by assumption) ?_
              | refine fork_t rfl ?_
              | refine fork_f rfl ?_
              | with_reducible refine fork_i (fun h => ?_) (fun h => ?_)
              | with_reducible refine both_i ?_ ?_
              | ((with_reducible refine alike_i ?_); exact ⟨rfl, rfl, rfl⟩)
              | ((with_reducible refine fin_i ?_); (conv => whnf); refine ⟨rfl, ?_⟩)
              | refine ⟨of_decide_eq_true rfl, ?_⟩
              | refine ⟨fun _ => of_decide_eq_true rfl, ?_⟩
              | ((with_reducible refine ⟨?_, ?_⟩); (focus (intros; simp_all; done)))
              | ((with_reducible refine ⟨?_, ?_⟩); (focus (intros; omega)))) <;> (try (conv => whnf)))
            all_goals ((with_reducible refine leaf_i ?_); (conv => whnf))
            repeat' ((with_reducible refine And.intro ?_ ?_) <;> (try (conv => whnf)))
            all_goals (try (first | with_reducible rfl | exact True.intro | rfl | exact id | exact fun h => h | exact fun _ => rfl))
      · obtain ⟨hC, hO, hO2, hno, _⟩ := more_ok (k := 5) (d := (nd g fr).dep) hc (by omega) hfr hnk (by decide) (by simp) (by simp)
        conv => whnf
        repeat' ((first
          | refine fork_f hno ?_
          | with_reducible refine ⟨fun h => h, ?_⟩
          | with_reducible refine ⟨pk1, ?_⟩
          | with_reducible refine ⟨pk2, ?_⟩
          | with_reducible refine ⟨pk3, ?_⟩
          | with_reducible refine ⟨pk4, ?_⟩
          | with_reducible refine ⟨pk5, ?_⟩
          | with_reducible refine ⟨pk6, ?_⟩
          | with_reducible refine ⟨trivial, ?_⟩
          | with_reducible refine ⟨fun _ => trivial, ?_⟩
          | with_reducible refine ⟨rfl, ?_⟩
          | with_reducible refine every_i (fun hd => ?_)
          | with_reducible refine everyN_i (fun k hk => ?_)
          | with_reducible refine everyD_i (fun d hd => ?_)
          | with_reducible refine fork_t (by assumption) ?_
          | with_reducible refine fork_f (by assumption) ?_
          | refine fork_t rfl ?_
          | refine fork_f rfl ?_
          | with_reducible refine fork_i (fun h => ?_) (fun h => ?_)
          | with_reducible refine both_i ?_ ?_
          | ((with_reducible refine alike_i ?_); exact ⟨rfl, rfl, rfl⟩)
          | ((with_reducible refine fin_i ?_); (conv => whnf); refine ⟨rfl, ?_⟩)
          | refine ⟨hfr, ?_⟩
          | refine ⟨hown, ?_⟩
          | refine ⟨hlen _, ?_⟩
          | refine ⟨hwd _ (Nat.le_refl 1), ?_⟩
          | refine ⟨hw, ?_⟩
          | refine ⟨of_decide_eq_true rfl, ?_⟩
          | refine ⟨fun _ => of_decide_eq_true rfl, ?_⟩
          | ((with_reducible refine ⟨?_, ?_⟩); (focus (intros; simp_all; done)))
          | ((with_reducible refine ⟨?_, ?_⟩); (focus (intros; omega)))) <;> (try (conv => whnf)))
        all_goals (
          refine only [] ?_
          (conv => whnf)
          refine looped (σ := Nat × Nat) (fun c => [(21, I c.1), (20, I c.2), (18, .rl true tI (orderG g ++ [((g.length : Int), ())])), (16, .rl true tI (orderG g)), (7, I g.length)]) (fun _ => []) (fun c => c.1 ≤ g.length + 1 ∧ c.2 = Nat.min c.1 g.length) (fun c => g.length + 1 - c.1) (0, 0) ⟨Nat.zero_le _, (Nat.zero_min _).symm⟩ ?_ ?_)
        · conv => whnf
          refine ⟨rfl, leaf_i ?_⟩
          repeat' ((with_reducible refine And.intro ?_ ?_) <;> (try (conv => whnf)))
          all_goals (try (first | with_reducible rfl | exact True.intro | rfl | exact id | exact fun h => h | exact fun _ => rfl))
          all_goals (first | exact congrArg Prod.fst hO2 | exact congrArg Prod.fst hO | exact hcl | trace_state)
        · rintro ⟨c, k⟩ ⟨hc1, hk⟩
          dsimp only at hc1 hk ⊢
          have hlb : ((orderG g ++ [((g.length : Int), ())]).length : Int) = (g.length : Int) + 1 := by rw [List.length_append, hlo]; simp
          have hib : decide ((c : Int) < ((orderG g ++ [((g.length : Int), ())]).length : Int)) = true → 0 ≤ (c : Int) ∧ (c : Int) < ((orderG g ++ [((g.length : Int), ())]).length : Int) := fun h => ⟨by omega, of_decide_eq_true h⟩
          rcases Nat.lt_trichotomy c g.length with h1 | h1 | h1
          · have hk : k = c := by rw [hk]; exact Nat.min_eq_left (by omega)
            subst hk
            obtain ⟨e1, e2⟩ := ord_at hc h1
            have hne : ((getE tI (orderG g ++ [((g.length : Int), ())]) (k : Int).toNat).1 == (g.length : Int)) = false := by
              rw [show (k : Int).toNat = k from rfl, e1]; exact beq_false_of_ne e2
            have hlt : decide ((k : Int) < ((orderG g ++ [((g.length : Int), ())]).length : Int)) = true := decide_eq_true (by omega)
            have hka : decide ((k : Int) ≥ ((orderG g).length : Int)) = false := decide_eq_false (by omega)
            have hia : 0 ≤ (k : Int) ∧ (k : Int) < ((orderG g).length : Int) := by omega
            have hbad : (bif decide ((k : Int) ≥ ((orderG g).length : Int)) then true else ((getE tI (orderG g) (k : Int).toNat).1 != (getE tI (orderG g ++ [((g.length : Int), ())]) (k : Int).toNat).1)) = false := by
              rw [hka, show (k : Int).toNat = k from rfl, e1]; simp
            conv => whnf
            repeat' ((first
              | refine fork_t hlt ?_
              | refine fork_f hne ?_
              | refine fork_f hbad ?_
              | with_reducible refine ⟨fun h => h, ?_⟩
              | with_reducible refine ⟨pk1, ?_⟩
              | with_reducible refine ⟨pk2, ?_⟩
              | with_reducible refine ⟨pk3, ?_⟩
              | with_reducible refine ⟨pk4, ?_⟩
              | with_reducible refine ⟨pk5, ?_⟩
              | with_reducible refine ⟨pk6, ?_⟩
              | with_reducible refine ⟨trivial, ?_⟩
              | with_reducible refine ⟨fun _ => trivial, ?_⟩
              | with_reducible refine ⟨rfl, ?_⟩
              | with_reducible refine every_i (fun hd => ?_)
              | with_reducible refine everyN_i (fun k hk => ?_)
              | with_reducible refine everyD_i (fun d hd => ?_)
              | with_reducible refine fork_t (by assumption) ?_
              | with_reducible refine fork_f (by assumption) ?_
              | refine fork_t rfl ?_
              | refine fork_f rfl ?_
              | with_reducible refine fork_i (fun h => ?_) (fun h => ?_)
              | with_reducible refine both_i ?_ ?_
              | ((with_reducible refine alike_i ?_); exact ⟨rfl, rfl, rfl⟩)
              | ((with_reducible refine fin_i ?_); (conv => whnf); refine ⟨rfl, ?_⟩)
              | refine ⟨hib hlt, ?_⟩
              | refine ⟨fun _ => hia, ?_⟩
              | refine ⟨fun _ => hib hlt, ?_⟩
              | refine ⟨of_decide_eq_true rfl, ?_⟩
              | refine ⟨fun _ => of_decide_eq_true rfl, ?_⟩
              | ((with_reducible refine ⟨?_, ?_⟩); (focus (intros; simp_all; done)))
              | ((with_reducible refine ⟨?_, ?_⟩); (focus (intros; omega)))) <;> (try (conv => whnf)))
            refine next_i (k + 1, k + 1) ⟨by dsimp only; omega, (Nat.min_eq_left (by omega)).symm⟩ (by dsimp only; omega) rfl rfl ?_
            conv => whnf
            refine ⟨rfl, leaf_i ?_⟩
            repeat' ((with_reducible refine And.intro ?_ ?_) <;> (try (conv => whnf)))
            all_goals (try (first | with_reducible rfl | exact True.intro | rfl | exact id | exact fun h => h | exact fun _ => rfl))
            all_goals (first | rfl | exact wrapS (by omega) | trace_state)
          · have hk : k = c := by rw [hk]; exact Nat.min_eq_left (by omega)
            subst hk
            have hlt : decide ((k : Int) < ((orderG g ++ [((g.length : Int), ())]).length : Int)) = true := decide_eq_true (by omega)
            have hne : ((getE tI (orderG g ++ [((g.length : Int), ())]) (k : Int).toNat).1 == (g.length : Int)) = true := by
              rw [show (k : Int).toNat = k from rfl, h1, ord_last hc]; simp
            conv => whnf
            repeat' ((first
              | refine fork_t hlt ?_
              | refine fork_t hne ?_
              | with_reducible refine ⟨fun h => h, ?_⟩
              | with_reducible refine ⟨pk1, ?_⟩
              | with_reducible refine ⟨pk2, ?_⟩
              | with_reducible refine ⟨pk3, ?_⟩
              | with_reducible refine ⟨pk4, ?_⟩
              | with_reducible refine ⟨pk5, ?_⟩
              | with_reducible refine ⟨pk6, ?_⟩
              | with_reducible refine ⟨trivial, ?_⟩
              | with_reducible refine ⟨fun _ => trivial, ?_⟩
              | with_reducible refine ⟨rfl, ?_⟩
              | with_reducible refine every_i (fun hd => ?_)
              | with_reducible refine everyN_i (fun k hk => ?_)
              | with_reducible refine everyD_i (fun d hd => ?_)
              | with_reducible refine fork_t (by assumption) ?_
              | with_reducible refine fork_f (by assumption) ?_
              | refine fork_t rfl ?_
              | refine fork_f rfl ?_
              | with_reducible refine fork_i (fun h => ?_) (fun h => ?_)
              | with_reducible refine both_i ?_ ?_
              | ((with_reducible refine alike_i ?_); exact ⟨rfl, rfl, rfl⟩)
              | ((with_reducible refine fin_i ?_); (conv => whnf); refine ⟨rfl, ?_⟩)
              | refine ⟨hib hlt, ?_⟩
              | refine ⟨of_decide_eq_true rfl, ?_⟩
              | refine ⟨fun _ => of_decide_eq_true rfl, ?_⟩
              | ((with_reducible refine ⟨?_, ?_⟩); (focus (intros; simp_all; done)))
              | ((with_reducible refine ⟨?_, ?_⟩); (focus (intros; omega)))) <;> (try (conv => whnf)))
            refine next_i (k + 1, k) ⟨by dsimp only; omega, h1.trans (Nat.min_eq_right (by omega)).symm⟩ (by dsimp only; omega) rfl rfl ?_
            conv => whnf
            refine ⟨rfl, leaf_i ?_⟩
            repeat' ((with_reducible refine And.intro ?_ ?_) <;> (try (conv => whnf)))
            all_goals (try (first | with_reducible rfl | exact True.intro | rfl | exact id | exact fun h => h | exact fun _ => rfl))
            all_goals (first | rfl | exact wrapS (by omega) | trace_state)
          · have hlt : decide ((c : Int) < ((orderG g ++ [((g.length : Int), ())]).length : Int)) = false := decide_eq_false (by omega)
            conv => whnf
            repeat' ((first
              | refine fork_f hlt ?_
              | with_reducible refine ⟨fun h => h, ?_⟩
              | with_reducible refine ⟨pk1, ?_⟩
              | with_reducible refine ⟨pk2, ?_⟩
              | with_reducible refine ⟨pk3, ?_⟩
              | with_reducible refine ⟨pk4, ?_⟩
              | with_reducible refine ⟨pk5, ?_⟩
              | with_reducible refine ⟨pk6, ?_⟩
              | with_reducible refine ⟨trivial, ?_⟩
              | with_reducible refine ⟨fun _ => trivial, ?_⟩
              | with_reducible refine ⟨rfl, ?_⟩
              | with_reducible refine every_i (fun hd => ?_)
              | with_reducible refine everyN_i (fun k hk => ?_)
              | with_reducible refine everyD_i (fun d hd => ?_)
              | with_reducible refine fork_t (by assumption) ?_
              | with_reducible refine fork_f (by assumption) ?_
              | refine fork_t rfl ?_
              | refine fork_f rfl ?_
              | with_reducible refine fork_i (fun h => ?_) (fun h => ?_)
              | with_reducible refine both_i ?_ ?_
              | ((with_reducible refine alike_i ?_); exact ⟨rfl, rfl, rfl⟩)
              | ((with_reducible refine fin_i ?_); (conv => whnf); refine ⟨rfl, ?_⟩)
              | refine ⟨of_decide_eq_true rfl, ?_⟩
              | refine ⟨fun _ => of_decide_eq_true rfl, ?_⟩
              | ((with_reducible refine ⟨?_, ?_⟩); (focus (intros; simp_all; done)))
              | ((with_reducible refine ⟨?_, ?_⟩); (focus (intros; omega)))) <;> (try (conv => whnf)))
            all_goals ((with_reducible refine leaf_i ?_); (conv => whnf))
            repeat' ((with_reducible refine And.intro ?_ ?_) <;> (try (conv => whnf)))
            all_goals (try (first | with_reducible rfl | exact True.intro | rfl | exact id | exact fun h => h | exact fun _ => rfl))
      · have hdr : 0 ≤ (nd g fr).dep ∧ (nd g fr).dep ≤ 3 := check_dep hc _ (getE_mem g (by omega))
        have hww : IntKind.i64.wrap ((nd g fr).dep - 1) = (nd g fr).dep - 1 := wrapI (by omega) (by omega)
        by_cases h8 : 1 ≤ (nd g fr).dep
        · obtain ⟨hC, hO, hO2, hno, _⟩ := more_ok (k := 8) (d := (IntKind.i64.wrap ((nd g fr).dep - 1))) hc (by omega) hfr hnk (by decide) (by rw [if_pos rfl]; exact hww) ⟨fun _ => by omega, by simp⟩
          have hrt : (!decide (IntKind.i64.wrap ((nd g fr).dep - 1) ≥ 0)) = false := by rw [hww, decide_eq_true (by omega)]; rfl
          conv => whnf
          repeat' ((first
            | refine fork_f hno ?_
            | refine fork_f hrt ?_
            | with_reducible refine ⟨fun h => h, ?_⟩
            | with_reducible refine ⟨pk1, ?_⟩
            | with_reducible refine ⟨pk2, ?_⟩
            | with_reducible refine ⟨pk3, ?_⟩
            | with_reducible refine ⟨pk4, ?_⟩
            | with_reducible refine ⟨pk5, ?_⟩
            | with_reducible refine ⟨pk6, ?_⟩
            | with_reducible refine ⟨trivial, ?_⟩
            | with_reducible refine ⟨fun _ => trivial, ?_⟩
            | with_reducible refine ⟨rfl, ?_⟩
            | with_reducible refine every_i (fun hd => ?_)
            | with_reducible refine everyN_i (fun k hk => ?_)
            | with_reducible refine everyD_i (fun d hd => ?_)
            | with_reducible refine fork_t (by assumption) ?_
            | with_reducible refine fork_f (by assumption) ?_
            | refine fork_t rfl ?_
            | refine fork_f rfl ?_
            | with_reducible refine fork_i (fun h => ?_) (fun h => ?_)
            | with_reducible refine both_i ?_ ?_
            | ((with_reducible refine alike_i ?_); exact ⟨rfl, rfl, rfl⟩)
            | ((with_reducible refine fin_i ?_); (conv => whnf); refine ⟨rfl, ?_⟩)
            | refine ⟨hfr, ?_⟩
            | refine ⟨hown, ?_⟩
            | refine ⟨hlen _, ?_⟩
            | refine ⟨hwd _ (Nat.le_refl 1), ?_⟩
            | refine ⟨hw, ?_⟩
            | refine ⟨of_decide_eq_true rfl, ?_⟩
            | refine ⟨fun _ => of_decide_eq_true rfl, ?_⟩
            | ((with_reducible refine ⟨?_, ?_⟩); (focus (intros; simp_all; done)))
            | ((with_reducible refine ⟨?_, ?_⟩); (focus (intros; omega)))) <;> (try (conv => whnf)))
          all_goals (
            refine only [] ?_
            (conv => whnf)
            refine looped (σ := Nat × Nat) (fun c => [(21, I c.1), (20, I c.2), (18, .rl true tI (orderG g ++ [((g.length : Int), ())])), (16, .rl true tI (orderG g)), (7, I g.length)]) (fun _ => []) (fun c => c.1 ≤ g.length + 1 ∧ c.2 = Nat.min c.1 g.length) (fun c => g.length + 1 - c.1) (0, 0) ⟨Nat.zero_le _, (Nat.zero_min _).symm⟩ ?_ ?_)
          · conv => whnf
            refine ⟨rfl, leaf_i ?_⟩
            repeat' ((with_reducible refine And.intro ?_ ?_) <;> (try (conv => whnf)))
            all_goals (try (first | with_reducible rfl | exact True.intro | rfl | exact id | exact fun h => h | exact fun _ => rfl))
            all_goals (first | exact congrArg Prod.fst hO2 | exact congrArg Prod.fst hO | exact hcl | trace_state)
          · rintro ⟨c, k⟩ ⟨hc1, hk⟩
            dsimp only at hc1 hk ⊢
            have hlb : ((orderG g ++ [((g.length : Int), ())]).length : Int) = (g.length : Int) + 1 := by rw [List.length_append, hlo]; simp
            have hib : decide ((c : Int) < ((orderG g ++ [((g.length : Int), ())]).length : Int)) = true → 0 ≤ (c : Int) ∧ (c : Int) < ((orderG g ++ [((g.length : Int), ())]).length : Int) := fun h => ⟨by omega, of_decide_eq_true h⟩
            rcases Nat.lt_trichotomy c g.length with h1 | h1 | h1
            · have hk : k = c := by rw [hk]; exact Nat.min_eq_left (by omega)
              subst hk
              obtain ⟨e1, e2⟩ := ord_at hc h1
              have hne : ((getE tI (orderG g ++ [((g.length : Int), ())]) (k : Int).toNat).1 == (g.length : Int)) = false := by
                rw [show (k : Int).toNat = k from rfl, e1]; exact beq_false_of_ne e2
              have hlt : decide ((k : Int) < ((orderG g ++ [((g.length : Int), ())]).length : Int)) = true := decide_eq_true (by omega)
              have hka : decide ((k : Int) ≥ ((orderG g).length : Int)) = false := decide_eq_false (by omega)
              have hia : 0 ≤ (k : Int) ∧ (k : Int) < ((orderG g).length : Int) := by omega
              have hbad : (bif decide ((k : Int) ≥ ((orderG g).length : Int)) then true else ((getE tI (orderG g) (k : Int).toNat).1 != (getE tI (orderG g ++ [((g.length : Int), ())]) (k : Int).toNat).1)) = false := by
                rw [hka, show (k : Int).toNat = k from rfl, e1]; simp
              conv => whnf
              repeat' ((first
                | refine fork_t hlt ?_
                | refine fork_f hne ?_
                | refine fork_f hbad ?_
                | with_reducible refine ⟨fun h => h, ?_⟩
                | with_reducible refine ⟨pk1, ?_⟩
                | with_reducible refine ⟨pk2, ?_⟩
                | with_reducible refine ⟨pk3, ?_⟩
                | with_reducible refine ⟨pk4, ?_⟩
                | with_reducible refine ⟨pk5, ?_⟩
                | with_reducible refine ⟨pk6, ?_⟩
                | with_reducible refine ⟨trivial, ?_⟩
                | with_reducible refine ⟨fun _ => trivial, ?_⟩
                | with_reducible refine ⟨rfl, ?_⟩
                | with_reducible refine every_i (fun hd => ?_)
                | with_reducible refine everyN_i (fun k hk => ?_)
                | with_reducible refine everyD_i (fun d hd => ?_)
                | with_reducible refine fork_t (by assumption) ?_
                | with_reducible refine fork_f (by assumption) ?_
                | refine fork_t rfl ?_
                | refine fork_f rfl ?_
                | with_reducible refine fork_i (fun h => ?_) (fun h => ?_)
                | with_reducible refine both_i ?_ ?_
                | ((with_reducible refine alike_i ?_); exact ⟨rfl, rfl, rfl⟩)
                | ((with_reducible refine fin_i ?_); (conv => whnf); refine ⟨rfl, ?_⟩)
                | refine ⟨hib hlt, ?_⟩
                | refine ⟨fun _ => hia, ?_⟩
                | refine ⟨fun _ => hib hlt, ?_⟩
                | refine ⟨of_decide_eq_true rfl, ?_⟩
                | refine ⟨fun _ => of_decide_eq_true rfl, ?_⟩
                | ((with_reducible refine ⟨?_, ?_⟩); (focus (intros; simp_all; done)))
                | ((with_reducible refine ⟨?_, ?_⟩); (focus (intros; omega)))) <;> (try (conv => whnf)))
              refine next_i (k + 1, k + 1) ⟨by dsimp only; omega, (Nat.min_eq_left (by omega)).symm⟩ (by dsimp only; omega) rfl rfl ?_
              conv => whnf
              refine ⟨rfl, leaf_i ?_⟩
              repeat' ((with_reducible refine And.intro ?_ ?_) <;> (try (conv => whnf)))
              all_goals (try (first | with_reducible rfl | exact True.intro | rfl | exact id | exact fun h => h | exact fun _ => rfl))
              all_goals (first | rfl | exact wrapS (by omega) | trace_state)
            · have hk : k = c := by rw [hk]; exact Nat.min_eq_left (by omega)
              subst hk
              have hlt : decide ((k : Int) < ((orderG g ++ [((g.length : Int), ())]).length : Int)) = true := decide_eq_true (by omega)
              have hne : ((getE tI (orderG g ++ [((g.length : Int), ())]) (k : Int).toNat).1 == (g.length : Int)) = true := by
                rw [show (k : Int).toNat = k from rfl, h1, ord_last hc]; simp
              conv => whnf
              repeat' ((first
                | refine fork_t hlt ?_
                | refine fork_t hne ?_
                | with_reducible refine ⟨fun h => h, ?_⟩
                | with_reducible refine ⟨pk1, ?_⟩
                | with_reducible refine ⟨pk2, ?_⟩
                | with_reducible refine ⟨pk3, ?_⟩
                | with_reducible refine ⟨pk4, ?_⟩
                | with_reducible refine ⟨pk5, ?_⟩
                | with_reducible refine ⟨pk6, ?_⟩
                | with_reducible refine ⟨trivial, ?_⟩
                | with_reducible refine ⟨fun _ => trivial, ?_⟩
                | with_reducible refine ⟨rfl, ?_⟩
                | with_reducible refine every_i (fun hd => ?_)
                | with_reducible refine everyN_i (fun k hk => ?_)
                | with_reducible refine everyD_i (fun d hd => ?_)
                | with_reducible refine fork_t (by assumption) ?_
                | with_reducible refine fork_f (by assumption) ?_
                | refine fork_t rfl ?_
                | refine fork_f rfl ?_
                | with_reducible refine fork_i (fun h => ?_) (fun h => ?_)
                | with_reducible refine both_i ?_ ?_
                | ((with_reducible refine alike_i ?_); exact ⟨rfl, rfl, rfl⟩)
                | ((with_reducible refine fin_i ?_); (conv => whnf); refine ⟨rfl, ?_⟩)
                | refine ⟨hib hlt, ?_⟩
                | refine ⟨of_decide_eq_true rfl, ?_⟩
                | refine ⟨fun _ => of_decide_eq_true rfl, ?_⟩
                | ((with_reducible refine ⟨?_, ?_⟩); (focus (intros; simp_all; done)))
                | ((with_reducible refine ⟨?_, ?_⟩); (focus (intros; omega)))) <;> (try (conv => whnf)))
              refine next_i (k + 1, k) ⟨by dsimp only; omega, h1.trans (Nat.min_eq_right (by omega)).symm⟩ (by dsimp only; omega) rfl rfl ?_
              conv => whnf
              refine ⟨rfl, leaf_i ?_⟩
              repeat' ((with_reducible refine And.intro ?_ ?_) <;> (try (conv => whnf)))
              all_goals (try (first | with_reducible rfl | exact True.intro | rfl | exact id | exact fun h => h | exact fun _ => rfl))
              all_goals (first | rfl | exact wrapS (by omega) | trace_state)
            · have hlt : decide ((c : Int) < ((orderG g ++ [((g.length : Int), ())]).length : Int)) = false := decide_eq_false (by omega)
              conv => whnf
              repeat' ((first
                | refine fork_f hlt ?_
                | with_reducible refine ⟨fun h => h, ?_⟩
                | with_reducible refine ⟨pk1, ?_⟩
                | with_reducible refine ⟨pk2, ?_⟩
                | with_reducible refine ⟨pk3, ?_⟩
                | with_reducible refine ⟨pk4, ?_⟩
                | with_reducible refine ⟨pk5, ?_⟩
                | with_reducible refine ⟨pk6, ?_⟩
                | with_reducible refine ⟨trivial, ?_⟩
                | with_reducible refine ⟨fun _ => trivial, ?_⟩
                | with_reducible refine ⟨rfl, ?_⟩
                | with_reducible refine every_i (fun hd => ?_)
                | with_reducible refine everyN_i (fun k hk => ?_)
                | with_reducible refine everyD_i (fun d hd => ?_)
                | with_reducible refine fork_t (by assumption) ?_
                | with_reducible refine fork_f (by assumption) ?_
                | refine fork_t rfl ?_
                | refine fork_f rfl ?_
                | with_reducible refine fork_i (fun h => ?_) (fun h => ?_)
                | with_reducible refine both_i ?_ ?_
                | ((with_reducible refine alike_i ?_); exact ⟨rfl, rfl, rfl⟩)
                | ((with_reducible refine fin_i ?_); (conv => whnf); refine ⟨rfl, ?_⟩)
                | refine ⟨of_decide_eq_true rfl, ?_⟩
                | refine ⟨fun _ => of_decide_eq_true rfl, ?_⟩
                | ((with_reducible refine ⟨?_, ?_⟩); (focus (intros; simp_all; done)))
                | ((with_reducible refine ⟨?_, ?_⟩); (focus (intros; omega)))) <;> (try (conv => whnf)))
              all_goals ((with_reducible refine leaf_i ?_); (conv => whnf))
              repeat' ((with_reducible refine And.intro ?_ ?_) <;> (try (conv => whnf)))
              all_goals (try (first | with_reducible rfl | exact True.intro | rfl | exact id | exact fun h => h | exact fun _ => rfl))
        · have hwr := check_wrong (g := g) (k := 8) (d := (IntKind.i64.wrap ((nd g fr).dep - 1))) (fr := fr) (.inl ⟨rfl, by omega⟩)
          have hrt : (!decide (IntKind.i64.wrap ((nd g fr).dep - 1) ≥ 0)) = true := by rw [hww, decide_eq_false (by omega)]; rfl
          conv => whnf
          repeat' ((first
            | refine fork_t hrt ?_
            | with_reducible refine ⟨fun h => h, ?_⟩
            | with_reducible refine ⟨pk1, ?_⟩
            | with_reducible refine ⟨pk2, ?_⟩
            | with_reducible refine ⟨pk3, ?_⟩
            | with_reducible refine ⟨pk4, ?_⟩
            | with_reducible refine ⟨pk5, ?_⟩
            | with_reducible refine ⟨pk6, ?_⟩
            | with_reducible refine ⟨trivial, ?_⟩
            | with_reducible refine ⟨fun _ => trivial, ?_⟩
            | with_reducible refine ⟨rfl, ?_⟩
            | with_reducible refine every_i (fun hd => ?_)
            | with_reducible refine everyN_i (fun k hk => ?_)
            | with_reducible refine everyD_i (fun d hd => ?_)
            | with_reducible refine fork_t (by assumption) ?_
            | with_reducible refine fork_f (by assumption) ?_
            | refine fork_t rfl ?_
            | refine fork_f rfl ?_
            | with_reducible refine fork_i (fun h => ?_) (fun h => ?_)
            | with_reducible refine both_i ?_ ?_
            | ((with_reducible refine alike_i ?_); exact ⟨rfl, rfl, rfl⟩)
            | ((with_reducible refine fin_i ?_); (conv => whnf); refine ⟨rfl, ?_⟩)
            | refine ⟨hfr, ?_⟩
            | refine ⟨hown, ?_⟩
            | refine ⟨hlen _, ?_⟩
            | refine ⟨hwd _ (Nat.le_refl 1), ?_⟩
            | refine ⟨hfd _ (Nat.le_refl 1), ?_⟩
            | refine ⟨hw, ?_⟩
            | refine ⟨of_decide_eq_true rfl, ?_⟩
            | refine ⟨fun _ => of_decide_eq_true rfl, ?_⟩
            | ((with_reducible refine ⟨?_, ?_⟩); (focus (intros; simp_all; done)))
            | ((with_reducible refine ⟨?_, ?_⟩); (focus (intros; omega)))) <;> (try (conv => whnf)))
          all_goals ((with_reducible refine leaf_i ?_); (conv => whnf))
          repeat' ((with_reducible refine And.intro ?_ ?_) <;> (try (conv => whnf)))
          all_goals (try (first | with_reducible rfl | exact True.intro | rfl | exact id | exact fun h => h | exact fun _ => rfl))
          all_goals (rw [check_same, beq_self_eq_true, beq_self_eq_true])
          all_goals (first | exact wrong_ok hwr | trace_state)
      · by_cases h10 : (nd g fr).dep = 0
        · obtain ⟨hC, hO, hO2, hno, _⟩ := more_ok (k := 10) (d := (nd g fr).dep) hc (by omega) hfr hnk (by decide) (by simp) ⟨by simp, fun _ => h10⟩
          have hrt : (!((nd g fr).dep == 0)) = false := by rw [h10]; rfl
          conv => whnf
          repeat' ((first
            | refine fork_f hno ?_
            | refine fork_f hrt ?_
            | with_reducible refine ⟨fun h => h, ?_⟩
            | with_reducible refine ⟨pk1, ?_⟩
            | with_reducible refine ⟨pk2, ?_⟩
            | with_reducible refine ⟨pk3, ?_⟩
            | with_reducible refine ⟨pk4, ?_⟩
            | with_reducible refine ⟨pk5, ?_⟩
            | with_reducible refine ⟨pk6, ?_⟩
            | with_reducible refine ⟨trivial, ?_⟩
            | with_reducible refine ⟨fun _ => trivial, ?_⟩
            | with_reducible refine ⟨rfl, ?_⟩
            | with_reducible refine every_i (fun hd => ?_)
            | with_reducible refine everyN_i (fun k hk => ?_)
            | with_reducible refine everyD_i (fun d hd => ?_)
            | with_reducible refine fork_t (by assumption) ?_
            | with_reducible refine fork_f (by assumption) ?_
            | refine fork_t rfl ?_
            | refine fork_f rfl ?_
            | with_reducible refine fork_i (fun h => ?_) (fun h => ?_)
            | with_reducible refine both_i ?_ ?_
            | ((with_reducible refine alike_i ?_); exact ⟨rfl, rfl, rfl⟩)
            | ((with_reducible refine fin_i ?_); (conv => whnf); refine ⟨rfl, ?_⟩)
            | refine ⟨hfr, ?_⟩
            | refine ⟨hown, ?_⟩
            | refine ⟨hlen _, ?_⟩
            | refine ⟨hwd _ (Nat.le_refl 1), ?_⟩
            | refine ⟨hw, ?_⟩
            | refine ⟨of_decide_eq_true rfl, ?_⟩
            | refine ⟨fun _ => of_decide_eq_true rfl, ?_⟩
            | ((with_reducible refine ⟨?_, ?_⟩); (focus (intros; simp_all; done)))
            | ((with_reducible refine ⟨?_, ?_⟩); (focus (intros; omega)))) <;> (try (conv => whnf)))
          all_goals (
            refine only [] ?_
            (conv => whnf)
            refine looped (σ := Nat × Nat) (fun c => [(21, I c.1), (20, I c.2), (18, .rl true tI (orderG g ++ [((g.length : Int), ())])), (16, .rl true tI (orderG g)), (7, I g.length)]) (fun _ => []) (fun c => c.1 ≤ g.length + 1 ∧ c.2 = Nat.min c.1 g.length) (fun c => g.length + 1 - c.1) (0, 0) ⟨Nat.zero_le _, (Nat.zero_min _).symm⟩ ?_ ?_)
          · conv => whnf
            refine ⟨rfl, leaf_i ?_⟩
            repeat' ((with_reducible refine And.intro ?_ ?_) <;> (try (conv => whnf)))
            all_goals (try (first | with_reducible rfl | exact True.intro | rfl | exact id | exact fun h => h | exact fun _ => rfl))
            all_goals (first | exact congrArg Prod.fst hO2 | exact congrArg Prod.fst hO | exact hcl | trace_state)
          · rintro ⟨c, k⟩ ⟨hc1, hk⟩
            dsimp only at hc1 hk ⊢
            have hlb : ((orderG g ++ [((g.length : Int), ())]).length : Int) = (g.length : Int) + 1 := by rw [List.length_append, hlo]; simp
            have hib : decide ((c : Int) < ((orderG g ++ [((g.length : Int), ())]).length : Int)) = true → 0 ≤ (c : Int) ∧ (c : Int) < ((orderG g ++ [((g.length : Int), ())]).length : Int) := fun h => ⟨by omega, of_decide_eq_true h⟩
            rcases Nat.lt_trichotomy c g.length with h1 | h1 | h1
            · have hk : k = c := by rw [hk]; exact Nat.min_eq_left (by omega)
              subst hk
              obtain ⟨e1, e2⟩ := ord_at hc h1
              have hne : ((getE tI (orderG g ++ [((g.length : Int), ())]) (k : Int).toNat).1 == (g.length : Int)) = false := by
                rw [show (k : Int).toNat = k from rfl, e1]; exact beq_false_of_ne e2
              have hlt : decide ((k : Int) < ((orderG g ++ [((g.length : Int), ())]).length : Int)) = true := decide_eq_true (by omega)
              have hka : decide ((k : Int) ≥ ((orderG g).length : Int)) = false := decide_eq_false (by omega)
              have hia : 0 ≤ (k : Int) ∧ (k : Int) < ((orderG g).length : Int) := by omega
              have hbad : (bif decide ((k : Int) ≥ ((orderG g).length : Int)) then true else ((getE tI (orderG g) (k : Int).toNat).1 != (getE tI (orderG g ++ [((g.length : Int), ())]) (k : Int).toNat).1)) = false := by
                rw [hka, show (k : Int).toNat = k from rfl, e1]; simp
              conv => whnf
              repeat' ((first
                | refine fork_t hlt ?_
                | refine fork_f hne ?_
                | refine fork_f hbad ?_
                | with_reducible refine ⟨fun h => h, ?_⟩
                | with_reducible refine ⟨pk1, ?_⟩
                | with_reducible refine ⟨pk2, ?_⟩
                | with_reducible refine ⟨pk3, ?_⟩
                | with_reducible refine ⟨pk4, ?_⟩
                | with_reducible refine ⟨pk5, ?_⟩
                | with_reducible refine ⟨pk6, ?_⟩
                | with_reducible refine ⟨trivial, ?_⟩
                | with_reducible refine ⟨fun _ => trivial, ?_⟩
                | with_reducible refine ⟨rfl, ?_⟩
                | with_reducible refine every_i (fun hd => ?_)
                | with_reducible refine everyN_i (fun k hk => ?_)
                | with_reducible refine everyD_i (fun d hd => ?_)
                | with_reducible refine fork_t (by assumption) ?_
                | with_reducible refine fork_f (by assumption) ?_
                | refine fork_t rfl ?_
                | refine fork_f rfl ?_
                | with_reducible refine fork_i (fun h => ?_) (fun h => ?_)
                | with_reducible refine both_i ?_ ?_
                | ((with_reducible refine alike_i ?_); exact ⟨rfl, rfl, rfl⟩)
                | ((with_reducible refine fin_i ?_); (conv => whnf); refine ⟨rfl, ?_⟩)
                | refine ⟨hib hlt, ?_⟩
                | refine ⟨fun _ => hia, ?_⟩
                | refine ⟨fun _ => hib hlt, ?_⟩
                | refine ⟨of_decide_eq_true rfl, ?_⟩
                | refine ⟨fun _ => of_decide_eq_true rfl, ?_⟩
                | ((with_reducible refine ⟨?_, ?_⟩); (focus (intros; simp_all; done)))
                | ((with_reducible refine ⟨?_, ?_⟩); (focus (intros; omega)))) <;> (try (conv => whnf)))
              refine next_i (k + 1, k + 1) ⟨by dsimp only; omega, (Nat.min_eq_left (by omega)).symm⟩ (by dsimp only; omega) rfl rfl ?_
              conv => whnf
              refine ⟨rfl, leaf_i ?_⟩
              repeat' ((with_reducible refine And.intro ?_ ?_) <;> (try (conv => whnf)))
              all_goals (try (first | with_reducible rfl | exact True.intro | rfl | exact id | exact fun h => h | exact fun _ => rfl))
              all_goals (first | rfl | exact wrapS (by omega) | trace_state)
            · have hk : k = c := by rw [hk]; exact Nat.min_eq_left (by omega)
              subst hk
              have hlt : decide ((k : Int) < ((orderG g ++ [((g.length : Int), ())]).length : Int)) = true := decide_eq_true (by omega)
              have hne : ((getE tI (orderG g ++ [((g.length : Int), ())]) (k : Int).toNat).1 == (g.length : Int)) = true := by
                rw [show (k : Int).toNat = k from rfl, h1, ord_last hc]; simp
              conv => whnf
              repeat' ((first
                | refine fork_t hlt ?_
                | refine fork_t hne ?_
                | with_reducible refine ⟨fun h => h, ?_⟩
                | with_reducible refine ⟨pk1, ?_⟩
                | with_reducible refine ⟨pk2, ?_⟩
                | with_reducible refine ⟨pk3, ?_⟩
                | with_reducible refine ⟨pk4, ?_⟩
                | with_reducible refine ⟨pk5, ?_⟩
                | with_reducible refine ⟨pk6, ?_⟩
                | with_reducible refine ⟨trivial, ?_⟩
                | with_reducible refine ⟨fun _ => trivial, ?_⟩
                | with_reducible refine ⟨rfl, ?_⟩
                | with_reducible refine every_i (fun hd => ?_)
                | with_reducible refine everyN_i (fun k hk => ?_)
                | with_reducible refine everyD_i (fun d hd => ?_)
                | with_reducible refine fork_t (by assumption) ?_
                | with_reducible refine fork_f (by assumption) ?_
                | refine fork_t rfl ?_
                | refine fork_f rfl ?_
                | with_reducible refine fork_i (fun h => ?_) (fun h => ?_)
                | with_reducible refine both_i ?_ ?_
                | ((with_reducible refine alike_i ?_); exact ⟨rfl, rfl, rfl⟩)
                | ((with_reducible refine fin_i ?_); (conv => whnf); refine ⟨rfl, ?_⟩)
                | refine ⟨hib hlt, ?_⟩
                | refine ⟨of_decide_eq_true rfl, ?_⟩
                | refine ⟨fun _ => of_decide_eq_true rfl, ?_⟩
                | ((with_reducible refine ⟨?_, ?_⟩); (focus (intros; simp_all; done)))
                | ((with_reducible refine ⟨?_, ?_⟩); (focus (intros; omega)))) <;> (try (conv => whnf)))
              refine next_i (k + 1, k) ⟨by dsimp only; omega, h1.trans (Nat.min_eq_right (by omega)).symm⟩ (by dsimp only; omega) rfl rfl ?_
              conv => whnf
              refine ⟨rfl, leaf_i ?_⟩
              repeat' ((with_reducible refine And.intro ?_ ?_) <;> (try (conv => whnf)))
              all_goals (try (first | with_reducible rfl | exact True.intro | rfl | exact id | exact fun h => h | exact fun _ => rfl))
              all_goals (first | rfl | exact wrapS (by omega) | trace_state)
            · have hlt : decide ((c : Int) < ((orderG g ++ [((g.length : Int), ())]).length : Int)) = false := decide_eq_false (by omega)
              conv => whnf
              repeat' ((first
                | refine fork_f hlt ?_
                | with_reducible refine ⟨fun h => h, ?_⟩
                | with_reducible refine ⟨pk1, ?_⟩
                | with_reducible refine ⟨pk2, ?_⟩
                | with_reducible refine ⟨pk3, ?_⟩
                | with_reducible refine ⟨pk4, ?_⟩
                | with_reducible refine ⟨pk5, ?_⟩
                | with_reducible refine ⟨pk6, ?_⟩
                | with_reducible refine ⟨trivial, ?_⟩
                | with_reducible refine ⟨fun _ => trivial, ?_⟩
                | with_reducible refine ⟨rfl, ?_⟩
                | with_reducible refine every_i (fun hd => ?_)
                | with_reducible refine everyN_i (fun k hk => ?_)
                | with_reducible refine everyD_i (fun d hd => ?_)
                | with_reducible refine fork_t (by assumption) ?_
                | with_reducible refine fork_f (by assumption) ?_
                | refine fork_t rfl ?_
                | refine fork_f rfl ?_
                | with_reducible refine fork_i (fun h => ?_) (fun h => ?_)
                | with_reducible refine both_i ?_ ?_
                | ((with_reducible refine alike_i ?_); exact ⟨rfl, rfl, rfl⟩)
                | ((with_reducible refine fin_i ?_); (conv => whnf); refine ⟨rfl, ?_⟩)
                | refine ⟨of_decide_eq_true rfl, ?_⟩
                | refine ⟨fun _ => of_decide_eq_true rfl, ?_⟩
                | ((with_reducible refine ⟨?_, ?_⟩); (focus (intros; simp_all; done)))
                | ((with_reducible refine ⟨?_, ?_⟩); (focus (intros; omega)))) <;> (try (conv => whnf)))
              all_goals ((with_reducible refine leaf_i ?_); (conv => whnf))
              repeat' ((with_reducible refine And.intro ?_ ?_) <;> (try (conv => whnf)))
              all_goals (try (first | with_reducible rfl | exact True.intro | rfl | exact id | exact fun h => h | exact fun _ => rfl))
        · have hwr := check_wrong (g := g) (k := 10) (d := (nd g fr).dep) (fr := fr) (.inr ⟨rfl, h10⟩)
          have hrt : (!((nd g fr).dep == 0)) = true := by rw [beq_false_of_ne h10]; rfl
          conv => whnf
          repeat' ((first
            | refine fork_t hrt ?_
            | with_reducible refine ⟨fun h => h, ?_⟩
            | with_reducible refine ⟨pk1, ?_⟩
            | with_reducible refine ⟨pk2, ?_⟩
            | with_reducible refine ⟨pk3, ?_⟩
            | with_reducible refine ⟨pk4, ?_⟩
            | with_reducible refine ⟨pk5, ?_⟩
            | with_reducible refine ⟨pk6, ?_⟩
            | with_reducible refine ⟨trivial, ?_⟩
            | with_reducible refine ⟨fun _ => trivial, ?_⟩
            | with_reducible refine ⟨rfl, ?_⟩
            | with_reducible refine every_i (fun hd => ?_)
            | with_reducible refine everyN_i (fun k hk => ?_)
            | with_reducible refine everyD_i (fun d hd => ?_)
            | with_reducible refine fork_t (by assumption) ?_
            | with_reducible refine fork_f (by assumption) ?_
            | refine fork_t rfl ?_
            | refine fork_f rfl ?_
            | with_reducible refine fork_i (fun h => ?_) (fun h => ?_)
            | with_reducible refine both_i ?_ ?_
            | ((with_reducible refine alike_i ?_); exact ⟨rfl, rfl, rfl⟩)
            | ((with_reducible refine fin_i ?_); (conv => whnf); refine ⟨rfl, ?_⟩)
            | refine ⟨hfr, ?_⟩
            | refine ⟨hown, ?_⟩
            | refine ⟨hlen _, ?_⟩
            | refine ⟨hwd _ (Nat.le_refl 1), ?_⟩
            | refine ⟨hfd _ (Nat.le_refl 1), ?_⟩
            | refine ⟨hw, ?_⟩
            | refine ⟨of_decide_eq_true rfl, ?_⟩
            | refine ⟨fun _ => of_decide_eq_true rfl, ?_⟩
            | ((with_reducible refine ⟨?_, ?_⟩); (focus (intros; simp_all; done)))
            | ((with_reducible refine ⟨?_, ?_⟩); (focus (intros; omega)))) <;> (try (conv => whnf)))
          all_goals ((with_reducible refine leaf_i ?_); (conv => whnf))
          repeat' ((with_reducible refine And.intro ?_ ?_) <;> (try (conv => whnf)))
          all_goals (try (first | with_reducible rfl | exact True.intro | rfl | exact id | exact fun h => h | exact fun _ => rfl))
          all_goals (rw [check_same, beq_self_eq_true, beq_self_eq_true])
          all_goals (first | exact wrong_ok hwr | trace_state)
end Go.Proofs.Ytbgcgokikekmoaa
