/- Parts of the proof, joined: no conditions of their own. -/
import Derived.Test.YtbgcgokikekmoaaG06
import Derived.Test.YtbgcgokikekmoaaG07
/- Layer 10: the statement CheckNode. -/
namespace Go.Proofs.Ytbgcgokikekmoaa
set_option maxRecDepth 100000
open Go Go.RowKit Go.Proofs.Ytbgcgokikekmoaa.Eng
theorem ins_fit {g : List Nd} {top : Int} (h : insG g top = true) (ht : top ≤ 1000) : fitG g ∧ g.length ≤ 1000 ∧ ∀ x : Nd, x ∈ g → (Nd.ins x).length ≤ 1000 := by
  simp only [insG, Bool.and_eq_true, decide_eq_true_eq, List.all_eq_true] at h
  have h2 : ∀ x : Nd, x ∈ g → (Nd.ins x).length ≤ 1000 := fun x hx => by have := h.2 x hx; omega
  exact ⟨⟨by omega, fun x hx => by have := h2 x hx; omega⟩, by omega, h2⟩
attribute [local irreducible] nodeE
def k_lnode : Sig := .arg (shR tN) fun g => .arg shI fun i => .done { pre := True, res := B true }
set_option maxHeartbeats 8000000 in
theorem c_lnode : FnOk Try.prog 3 k_lnode.con := by
  refine fnOkS mixed tys_ok (cs := [(9, k_ins.con), (10, k_works.con), (11, k_own.con), (12, k_node.con), (13, k_rnode.con), (14, k_rsame.con)]) ⟨c_ins, c_works, c_own, c_node, c_rnode, c_rsame, trivial⟩ Try.func3 rfl (by kernel_rfl) Try.ntmps3 _ (h := ?_)
  intro g i
  refine ⟨rfl, fun _ => ?_⟩
  conv => whnf
  repeat' ((first
    | with_reducible refine ⟨fun h => h, ?_⟩
    | with_reducible refine ⟨pk1, ?_⟩
    | with_reducible refine ⟨pk2, ?_⟩
    | with_reducible refine ⟨pk3, ?_⟩
    | with_reducible refine ⟨pk4, ?_⟩
    | with_reducible refine ⟨pk5, ?_⟩
    | with_reducible refine ⟨pk6, ?_⟩
    | with_reducible refine ⟨trivial, ?_⟩
    | with_reducible refine ⟨fun _ => trivial, ?_⟩
    | with_reducible refine ⟨rfl, ?_⟩
    | with_reducible refine every_i (fun hd => ?_)
    | with_reducible refine everyN_i (fun k hk => ?_)
    | with_reducible refine everyD_i (fun d hd => ?_)
    | with_reducible refine fork_t (by assumption) ?_
    | with_reducible refine fork_f (by assumption) ?_
    | refine fork_t rfl ?_
    | refine fork_f rfl ?_
    | with_reducible refine fork_i (fun h => ?_) (fun h => ?_)
    | with_reducible refine both_i ?_ ?_
    | ((with_reducible refine alike_i ?_); exact ⟨rfl, rfl, rfl⟩)
    | ((with_reducible refine fin_i ?_); (conv => whnf); refine ⟨rfl, ?_⟩)
    | refine ⟨of_decide_eq_true rfl, ?_⟩
    | refine ⟨fun _ => of_decide_eq_true rfl, ?_⟩
    | ((with_reducible refine ⟨?_, ?_⟩); (focus (intros; simp_all; done)))
    | ((with_reducible refine ⟨?_, ?_⟩); (focus (intros; omega)))) <;> (try (conv => whnf)))
  · all_goals ((with_reducible refine leaf_i ?_); (conv => whnf))
    repeat' ((with_reducible refine And.intro ?_ ?_) <;> (try (conv => whnf)))
    all_goals (try (first | with_reducible rfl | exact True.intro | rfl | exact id | exact fun h => h | exact fun _ => rfl))
  · have hb : insG g 40 = true := by
      have h' : (!insG g 40) = false := h
      simpa using h'
    obtain ⟨hf, hl, hx⟩ := ins_fit hb (by decide)
    refine ⟨⟨by omega, fun x hh => Nat.le_trans (hx x hh) (by decide)⟩, ?_⟩
    (conv => whnf)
    conv => whnf
    repeat' ((first
      | with_reducible refine ⟨fun h => h, ?_⟩
      | with_reducible refine ⟨pk1, ?_⟩
      | with_reducible refine ⟨pk2, ?_⟩
      | with_reducible refine ⟨pk3, ?_⟩
      | with_reducible refine ⟨pk4, ?_⟩
      | with_reducible refine ⟨pk5, ?_⟩
      | with_reducible refine ⟨pk6, ?_⟩
      | with_reducible refine ⟨trivial, ?_⟩
      | with_reducible refine ⟨fun _ => trivial, ?_⟩
      | with_reducible refine ⟨rfl, ?_⟩
      | with_reducible refine every_i (fun hd => ?_)
      | with_reducible refine everyN_i (fun k hk => ?_)
      | with_reducible refine everyD_i (fun d hd => ?_)
      | with_reducible refine fork_t (by assumption) ?_
      | with_reducible refine fork_f (by assumption) ?_
      | refine fork_t rfl ?_
      | refine fork_f rfl ?_
      | with_reducible refine fork_i (fun h => ?_) (fun h => ?_)
      | with_reducible refine both_i ?_ ?_
      | ((with_reducible refine alike_i ?_); exact ⟨rfl, rfl, rfl⟩)
      | ((with_reducible refine fin_i ?_); (conv => whnf); refine ⟨rfl, ?_⟩)
      | refine ⟨hf, ?_⟩
      | refine ⟨fun _ => hf, ?_⟩
      | refine ⟨of_decide_eq_true rfl, ?_⟩
      | refine ⟨fun _ => of_decide_eq_true rfl, ?_⟩
      | ((with_reducible refine ⟨?_, ?_⟩); (focus (intros; simp_all; done)))
      | ((with_reducible refine ⟨?_, ?_⟩); (focus (intros; omega)))) <;> (try (conv => whnf)))
    all_goals ((with_reducible refine leaf_i ?_); (conv => whnf))
    repeat' ((with_reducible refine And.intro ?_ ?_) <;> (try (conv => whnf)))
    all_goals (try (first | with_reducible rfl | exact True.intro | rfl | exact id | exact fun h => h | exact fun _ => rfl))
    all_goals (first | (rw [beq_self_eq_true, (eqG_iff g g).2 rfl]; rfl) | trace_state)
end Go.Proofs.Ytbgcgokikekmoaa

/- Layer 10 in plain Lean: what the ways' table tells. No program in sight. -/
namespace Go.Proofs.Ytbgcgokikekmoaa
open Go Go.Proofs.Ytbgcgokikekmoaa.Eng
inductive Way {α : Type} (R : α → α → Prop) : α → α → Prop
  | one {i j : α} : R i j → Way R i j
  | more {i j k : α} : Way R i j → R j k → Way R i k
theorem Way.trans {α : Type} {R : α → α → Prop} {i j k : α} (h : Way R i j) (h' : Way R j k) : Way R i k := by
  induction h' with
  | one r => exact .more h r
  | more _ r ih => exact .more ih r
theorem Way.first {α : Type} {R : α → α → Prop} {i j : α} (h : Way R i j) : ∃ k, R i k := by
  induction h with
  | one r => exact ⟨_, r⟩
  | more _ _ ih => exact ih
theorem Way.head {α : Type} {R : α → α → Prop} {i j k : α} (h : R i j) (h' : Way R j k) : Way R i k := (Way.one h).trans h'
theorem Way.mono {α : Type} {R S : α → α → Prop} (hm : ∀ a b, R a b → S a b) {i j : α} (h : Way R i j) : Way S i j := by
  induction h with
  | one r => exact .one (hm _ _ r)
  | more _ r ih => exact .more ih (hm _ _ r)
def Fe (g : List Nd) (i j : Nat) : Prop := ∃ p : El tP, p ∈ toG g (i : Int) ∧ p.1 = (j : Int)
def Ed (g : List Nd) (least : Int) (i j : Nat) : Prop := Fe g i j ∧ stayB least (nd g i) = true ∧ stayB least (nd g j) = true
theorem fe_lt {g : List Nd} {i j : Nat} (h : Fe g i j) : j < g.length := by
  obtain ⟨p, hp, e⟩ := h
  obtain ⟨k, e', hk⟩ := toOut_at (i := (i : Int)) 0 g p (by simpa [toG] using hp)
  rw [e] at e'
  omega
theorem getB_set {n : Nat} {m : Mx} (h : sqU n n m) {i j a b : Nat} {v : Bool} (hi : i < n) (hj : j < n) : getB (setB m i j v) a b = if a = i ∧ b = j then v else getB m a b := by
  unfold getB setB
  rw [rowM_set]
  by_cases ha : a = i
  · subst ha
    rw [if_pos ⟨rfl, by rw [h.1]; exact hi⟩]
    unfold getE
    simp only [List.getD_eq_getElem?_getD, List.getElem?_set]
    by_cases hb : b = j
    · subst hb
      have : b < (rowM m a).length := by rw [h.2 a hi]; exact hj
      simp [this]
    · rw [if_neg (fun e => hb e.symm)]
      simp [hb]
  · rw [if_neg (fun e => ha e.1.symm), if_neg (fun e => ha e.1)]
def Le (n : Nat) (m m' : Mx) : Prop := ∀ a b, a < n → b < n → getB m a b = true → getB m' a b = true
theorem Le.rfl' {n : Nat} {m : Mx} : Le n m m := fun _ _ _ _ h => h
theorem Le.trans {n : Nat} {m m' m'' : Mx} (h : Le n m m') (h' : Le n m' m'') : Le n m m'' := fun a b ha hb h0 => h' a b ha hb (h a b ha hb h0)
theorem stJ_s (m : Mx) (k i j : Nat) : stJ m k i (j + 1) = setB (stJ m k i j) i j (bif getB (stJ m k i j) i j then true else bif getB (stJ m k i j) i k then getB (stJ m k i j) k j else false) := rfl
theorem stJ_get {n : Nat} {m : Mx} (h : sqU n n m) {k i j : Nat} (hi : i < n) (hj : j < n) (a b : Nat) :
    getB (stJ m k i (j + 1)) a b = if a = i ∧ b = j then (getB (stJ m k i j) i j || (getB (stJ m k i j) i k && getB (stJ m k i j) k j)) else getB (stJ m k i j) a b := by
  rw [stJ_s, getB_set (sqU_stJ h k i j) hi hj]
  congr 1
  cases getB (stJ m k i j) i j <;> cases getB (stJ m k i j) i k <;> rfl
theorem stJ_le {n : Nat} {m : Mx} (h : sqU n n m) {k i : Nat} (hi : i < n) : ∀ j, j ≤ n → Le n m (stJ m k i j)
  | 0, _ => Le.rfl'
  | j + 1, hj => fun a b ha hb h0 => by
    have ih := stJ_le h (k := k) hi j (by omega) a b ha hb h0
    rw [stJ_get h hi (by omega)]
    split
    · rename_i e
      rw [e.1, e.2] at ih
      rw [ih, Bool.true_or]
    · exact ih
theorem stJ_sound {n : Nat} {m : Mx} (h : sqU n n m) {W : Nat → Nat → Prop} (ht : ∀ a b c, W a b → W b c → W a c) (hw : ∀ a b, a < n → b < n → getB m a b = true → W a b) {k i : Nat} (hk : k < n) (hi : i < n) :
    ∀ j, j ≤ n → ∀ a b, a < n → b < n → getB (stJ m k i j) a b = true → W a b
  | 0, _ => hw
  | j + 1, hj => fun a b ha hb h0 => by
    have ih := stJ_sound h ht hw hk hi j (by omega)
    rw [stJ_get h hi (by omega)] at h0
    split at h0
    · rename_i e
      obtain ⟨rfl, rfl⟩ := e
      simp only [Bool.or_eq_true, Bool.and_eq_true] at h0
      rcases h0 with h0 | ⟨h1, h2⟩
      · exact ih _ _ ha hb h0
      · exact ht _ _ _ (ih _ _ ha hk h1) (ih _ _ hk hb h2)
    · exact ih _ _ ha hb h0
theorem stJ_comp {n : Nat} {m : Mx} (h : sqU n n m) {k i : Nat} (hk : k < n) (hi : i < n) : ∀ j, j ≤ n → ∀ b, b < j → getB m i k = true → getB m k b = true → getB (stJ m k i j) i b = true
  | 0, _, b, hb, _, _ => absurd hb (Nat.not_lt_zero _)
  | j + 1, hj, b, hb, h1, h2 => by
    rw [stJ_get h hi (by omega)]
    split
    · rename_i e
      have e2 := e.2
      subst e2
      have q1 := stJ_le h (k := k) hi b (by omega) i k hi hk h1
      have q2 := stJ_le h (k := k) hi b (by omega) k b hk (by omega) h2
      rw [q1, q2]; simp
    · rename_i e
      exact stJ_comp h hk hi j (by omega) b (by have : b ≠ j := fun e' => e ⟨rfl, e'⟩; omega) h1 h2
theorem stI_s (m : Mx) (n k i : Nat) : stI m n k (i + 1) = stJ (stI m n k i) k i n := rfl
theorem stI_le {n : Nat} {m : Mx} (h : sqU n n m) {k : Nat} : ∀ i, i ≤ n → Le n m (stI m n k i)
  | 0, _ => Le.rfl'
  | i + 1, hi => (stI_le h i (by omega)).trans (stJ_le (sqU_stI h k i) (by omega) n (Nat.le_refl _))
theorem stI_sound {n : Nat} {m : Mx} (h : sqU n n m) {W : Nat → Nat → Prop} (ht : ∀ a b c, W a b → W b c → W a c) (hw : ∀ a b, a < n → b < n → getB m a b = true → W a b) {k : Nat} (hk : k < n) :
    ∀ i, i ≤ n → ∀ a b, a < n → b < n → getB (stI m n k i) a b = true → W a b
  | 0, _ => hw
  | i + 1, hi => stJ_sound (sqU_stI h k i) ht (stI_sound h ht hw hk i (by omega)) hk (by omega) n (Nat.le_refl _)
theorem stI_comp {n : Nat} {m : Mx} (h : sqU n n m) {k : Nat} (hk : k < n) : ∀ i, i ≤ n → ∀ a b, a < i → b < n → getB m a k = true → getB m k b = true → getB (stI m n k i) a b = true
  | 0, _, a, b, ha, _, _, _ => absurd ha (Nat.not_lt_zero _)
  | i + 1, hi, a, b, ha, hb, h1, h2 => by
    rw [stI_s]
    by_cases e : a = i
    · subst e
      have q1 := stI_le h (k := k) a (by omega) a k (by omega) hk h1
      have q2 := stI_le h (k := k) a (by omega) k b hk hb h2
      exact stJ_comp (sqU_stI h k a) hk (by omega) n (Nat.le_refl _) b hb q1 q2
    · exact stJ_le (sqU_stI h k i) (by omega) n (Nat.le_refl _) a b (by omega) hb (stI_comp h hk i (by omega) a b (by omega) hb h1 h2)
theorem stK_s (m : Mx) (n k : Nat) : stK m n (k + 1) = stI (stK m n k) n k n := rfl
theorem stK_sound {n : Nat} {m : Mx} (h : sqU n n m) {W : Nat → Nat → Prop} (ht : ∀ a b c, W a b → W b c → W a c) (hw : ∀ a b, a < n → b < n → getB m a b = true → W a b) :
    ∀ k, k ≤ n → ∀ a b, a < n → b < n → getB (stK m n k) a b = true → W a b
  | 0, _ => hw
  | k + 1, hk => stI_sound (sqU_stK h k) ht (stK_sound h ht hw k (by omega)) (by omega) n (Nat.le_refl _)
def Thr (R : Nat → Nat → Prop) : Nat → Nat → Nat → Prop
  | 0, i, j => R i j
  | k + 1, i, j => Thr R k i j ∨ (Thr R k i k ∧ Thr R k k j)
theorem thr_join {R : Nat → Nat → Prop} : ∀ (k : Nat) {i m j : Nat}, m < k → Thr R k i m → Thr R k m j → Thr R k i j
  | 0, _, _, _, h, _, _ => absurd h (Nat.not_lt_zero _)
  | k + 1, i, m, j, h, h1, h2 => by
    by_cases e : m = k
    · subst e
      refine .inr ⟨?_, ?_⟩
      · rcases h1 with h1 | h1
        · exact h1
        · exact h1.1
      · rcases h2 with h2 | h2
        · exact h2
        · exact h2.2
    · have hm : m < k := by omega
      rcases h1 with h1 | ⟨h1, h1'⟩
      · rcases h2 with h2 | ⟨h2, h2'⟩
        · exact .inl (thr_join k hm h1 h2)
        · exact .inr ⟨thr_join k hm h1 h2, h2'⟩
      · rcases h2 with h2 | ⟨h2, h2'⟩
        · exact .inr ⟨h1, thr_join k hm h1' h2⟩
        · exact .inr ⟨h1, h2'⟩
theorem thr_mono {R : Nat → Nat → Prop} {i j : Nat} (h : R i j) : ∀ k, Thr R k i j
  | 0 => h
  | k + 1 => .inl (thr_mono h k)
theorem thr_way {R : Nat → Nat → Prop} {n : Nat} (hn : ∀ a b, R a b → b < n) {i j : Nat} (h : Way R i j) : Thr R n i j := by
  suffices Thr R n i j ∧ j < n from this.1
  induction h with
  | one r => exact ⟨thr_mono r n, hn _ _ r⟩
  | more _ r ih => exact ⟨thr_join n ih.2 ih.1 (thr_mono r n), hn _ _ r⟩
theorem stK_comp {n : Nat} {m : Mx} (h : sqU n n m) {R : Nat → Nat → Prop} (hr : ∀ a b, a < n → b < n → R a b → getB m a b = true) :
    ∀ k, k ≤ n → ∀ a b, a < n → b < n → Thr R k a b → getB (stK m n k) a b = true
  | 0, _ => hr
  | k + 1, hk => fun a b ha hb h0 => by
    have ih := stK_comp h hr k (by omega)
    rw [stK_s]
    rcases h0 with h0 | ⟨h1, h2⟩
    · exact stI_le (sqU_stK h k) n (Nat.le_refl _) a b ha hb (ih a b ha hb h0)
    · exact stI_comp (sqU_stK h k) (by omega) n (Nat.le_refl _) a b ha hb (ih a k ha (by omega) h1) (ih k b (by omega) hb h2)
theorem getB_setU {n u : Nat} {m : Mx} (h : sqU n u m) {i j a b : Nat} {v : Bool} (hn : i < n) (hi : i < u) (hj : j < n) : getB (setB m i j v) a b = if a = i ∧ b = j then v else getB m a b := by
  unfold getB setB
  rw [rowM_set]
  by_cases ha : a = i
  · subst ha
    rw [if_pos ⟨rfl, by rw [h.1]; exact hn⟩]
    unfold getE
    simp only [List.getD_eq_getElem?_getD, List.getElem?_set]
    by_cases hb : b = j
    · subst hb
      have : b < (rowM m a).length := by rw [h.2 a hi]; exact hj
      simp [this]
    · rw [if_neg (fun e => hb e.symm)]
      simp [hb]
  · rw [if_neg (fun e => ha e.1.symm), if_neg (fun e => ha e.1)]
theorem pK_s (g : List Nd) (least : Int) (i : Nat) (l : List (El tP)) (m : Mx) (k : Nat) : pK g least i l m (k + 1) = pB g least i (getE tP l k) (pK g least i l m k) := rfl
theorem pK_get {g : List Nd} {least : Int} {i : Nat} {m : Mx} (hi : i < g.length) (h : sqU g.length (i + 1) m) (hf : ∀ b, getB m i b = false) : ∀ k, k ≤ (toG g i).length → ∀ a b,
    (getB (pK g least i (toG g i) m k) a b = true ↔ (a ≠ i ∧ getB m a b = true) ∨ (a = i ∧ (∃ x, x < k ∧ (getE tP (toG g i) x).1.toNat = b) ∧ stayB least (nd g i) = true ∧ stayB least (nd g b) = true))
  | 0, _, a, b => by
    show getB m a b = true ↔ _
    by_cases e : a = i
    · subst e
      rw [hf b]
      simp
    · simp [e]
  | k + 1, hk, a, b => by
    have ih := pK_get hi h hf (least := least) k (by omega) a b
    obtain ⟨j, ej, hj⟩ := toG_at (g := g) (i := (i : Int)) (k := k) (by omega)
    rw [pK_s]
    unfold pB
    rw [getB_setU (sqU_pK h k) hi (Nat.lt_succ_self i) (by rw [ej]; exact hj)]
    by_cases e : a = i
    · subst e
      by_cases eb : b = (getE tP (toG g a) k).1.toNat
      · rw [if_pos ⟨rfl, eb⟩]
        have e1 : (getE tN g a) = nd g a := rfl
        have e2 : getE tN g (getE tP (toG g a) k).1.toNat = nd g b := by rw [eb]; rfl
        rw [e1, e2]
        constructor
        · intro hv
          refine .inr ⟨rfl, ⟨k, by omega, eb.symm⟩, ?_⟩
          cases h1 : stayB least (nd g a) with
          | false => rw [h1] at hv; cases hv
          | true => rw [h1] at hv; exact ⟨rfl, hv⟩
        · rintro (⟨hx, _⟩ | ⟨_, _, h1, h2⟩)
          · exact absurd rfl hx
          · rw [h1, h2]; rfl
      · rw [if_neg (fun x => eb x.2), ih]
        constructor
        · rintro (hx | ⟨_, ⟨x, hx, ex⟩, hs⟩)
          · exact .inl hx
          · exact .inr ⟨rfl, ⟨x, by omega, ex⟩, hs⟩
        · rintro (hx | ⟨_, ⟨x, hx, ex⟩, hs⟩)
          · exact .inl hx
          · refine .inr ⟨rfl, ⟨x, ?_, ex⟩, hs⟩
            by_cases xk : x = k
            · subst xk; exact absurd ex.symm eb
            · omega
    · rw [if_neg (fun x => e x.1), ih]
      constructor
      · rintro (hx | ⟨hx, _⟩)
        · exact .inl hx
        · exact absurd hx e
      · rintro (hx | ⟨hx, _⟩)
        · exact .inl hx
        · exact absurd hx e
theorem wA_s (g : List Nd) (least : Int) (i : Nat) : wA g least (i + 1) = pK g least i (toG g i) ((wA g least i).set i (falseR g.length, ())) (toG g i).length := rfl
theorem getB_row {g : List Nd} {m : Mx} {i : Nat} (h : m.length = g.length) (hi : i < g.length) (b : Nat) : getB (m.set i (falseR g.length, ())) i b = false := by
  unfold getB
  rw [rowM_set, if_pos ⟨rfl, by omega⟩]
  unfold getE falseR
  simp only [List.getD_eq_getElem?_getD, List.getElem?_replicate]
  split <;> rfl
theorem getB_row2 {g : List Nd} {m : Mx} {i a : Nat} (h : a ≠ i) (b : Nat) : getB (m.set i (falseR g.length, ())) a b = getB m a b := by
  unfold getB
  rw [rowM_set, if_neg (fun x => h x.1.symm)]
theorem wA_get {g : List Nd} {least : Int} : ∀ u, u ≤ g.length → ∀ a b, a < u → (getB (wA g least u) a b = true ↔ Ed g least a b)
  | 0, _, a, b, ha => absurd ha (Nat.not_lt_zero _)
  | u + 1, hu, a, b, ha => by
    have hq := sqU_wA (g := g) (least := least) u (by omega)
    rw [wA_s, pK_get (by omega) (sqU_row hq (by omega)) (getB_row hq.1 (by omega)) _ (Nat.le_refl _)]
    by_cases e : a = u
    · subst e
      constructor
      · rintro (⟨hx, _⟩ | ⟨_, ⟨x, hx, ex⟩, h1, h2⟩)
        · exact absurd rfl hx
        · refine ⟨⟨getE tP (toG g (a : Int)) x, getE_mem _ hx, ?_⟩, h1, h2⟩
          obtain ⟨j, ej, _⟩ := toG_at (g := g) (i := (a : Int)) hx
          rw [ej] at ex ⊢
          omega
      · rintro ⟨⟨p, hp, ep⟩, h1, h2⟩
        refine .inr ⟨rfl, ?_, h1, h2⟩
        obtain ⟨x, hx, ex⟩ := List.getElem_of_mem hp
        refine ⟨x, hx, ?_⟩
        unfold getE
        rw [List.getD_eq_getElem?_getD, List.getElem?_eq_getElem hx, Option.getD_some, ex, ep]
        rfl
    · rw [getB_row2 e, wA_get u (by omega) a b (by omega)]
      constructor
      · rintro (hx | ⟨hx, _⟩)
        · exact hx.2
        · exact absurd hx e
      · exact fun h => .inl ⟨e, h⟩
theorem waysG_iff {g : List Nd} {least : Int} {i j : Nat} (hi : i < g.length) (hj : j < g.length) : getB (waysG g least) i j = true ↔ Way (Ed g least) i j := by
  have hq := sqU_wA (g := g) (least := least) g.length (Nat.le_refl _)
  constructor
  · exact stK_sound hq (fun a b c => Way.trans) (fun a b ha hb h => .one ((wA_get _ (Nat.le_refl _) a b ha).1 h)) _ (Nat.le_refl _) i j hi hj
  · intro h
    exact stK_comp hq (R := Ed g least) (fun a b ha hb h => (wA_get _ (Nat.le_refl _) a b ha).2 h) _ (Nat.le_refl _) i j hi hj (thr_way (fun a b h => fe_lt h.1) h)
theorem backI_iff {g : List Nd} {k i : Nat} (hi : i < g.length) : backI g k i = true ↔ ∃ n, n < g.length ∧ (nd g n).dep = k ∧ Way (Ed g k) i n ∧ Way (Ed g k) n i := by
  unfold backI
  rw [hasP_any, List.any_eq_true]
  constructor
  · rintro ⟨x, hx, hb⟩
    obtain ⟨n, hn, e⟩ := plN_mem hx
    rw [e] at hb
    unfold backB at hb
    refine ⟨n, hn, ?_⟩
    rw [show ((i : Nat) : Int).toNat = i from rfl, show ((n : Nat) : Int).toNat = n from rfl] at hb
    cases h1 : ((nd g n).dep == (k : Int)) with
    | false => rw [h1] at hb; cases hb
    | true =>
      rw [h1] at hb
      cases h2 : getB (waysG g k) i n with
      | false => rw [h2] at hb; cases hb
      | true =>
        rw [h2] at hb
        exact ⟨eq_of_beq h1, (waysG_iff hi hn).1 h2, (waysG_iff hn hi).1 hb⟩
  · rintro ⟨n, hn, hd, h1, h2⟩
    refine ⟨((n : Int), ()), ?_, ?_⟩
    · have : ∀ m, n < m → ((n : Int), ()) ∈ plN m := fun m => by
        induction m with
        | zero => intro h; exact absurd h (Nat.not_lt_zero _)
        | succ m ih =>
          intro h
          unfold plN
          by_cases e : n = m
          · subst e; simp
          · exact List.mem_append_left _ (ih (by omega))
      exact this _ hn
    · unfold backB
      rw [show ((i : Nat) : Int).toNat = i from rfl, show ((n : Nat) : Int).toNat = n from rfl, show (nd g ((n : Int), ()).1).dep = (k : Int) from hd, beq_self_eq_true, (waysG_iff hi hn).2 h1, (waysG_iff hn hi).2 h2]
      rfl
end Go.Proofs.Ytbgcgokikekmoaa

/- Layer 10 in plain Lean: the code's and the document's Check are the same. -/
namespace Go.Proofs.Ytbgcgokikekmoaa
open Go Go.Proofs.Ytbgcgokikekmoaa.Eng
def St (g : List Nd) (least t t' : Int) : Prop := ∃ p : El tP, p ∈ toG g (half t) ∧ stayB least (nd g p.1) = true ∧ t' = nxt g least p.1 t
def seen (s : List (El tB)) (t : Int) : Prop := (getE tB s t.toNat).1 = true
theorem seen_set {s : List (El tB)} {x t : Int} (hx : 0 ≤ x) (hl : x.toNat < s.length) (ht : 0 ≤ t) : seen (s.set x.toNat (true, ())) t ↔ seen s t ∨ t = x := by
  unfold seen getE
  simp only [List.getD_eq_getElem?_getD, List.getElem?_set]
  by_cases e : x.toNat = t.toNat
  · have : t = x := by omega
    subst this
    simp [hl]
  · rw [if_neg e]
    have : ¬ t = x := fun h => e (by rw [h])
    simp [this]
theorem bfsI_some {g : List Nd} {fr least t : Int} : ∀ (r : List (El tP)) (s : List (El tB)) (q : List (El tI)) {s' q'}, s.length = 2 * g.length →
    (∀ p ∈ r, stayB least (nd g p.1) = true → 0 ≤ nxt g least p.1 t ∧ nxt g least p.1 t < 2 * (g.length : Int)) → bfsI g fr least t r s q = some (s', q') →
    s'.length = 2 * g.length ∧ (∀ x, 0 ≤ x → seen s x → seen s' x) ∧ (∀ p ∈ r, stayB least (nd g p.1) = true → nxt g least p.1 t ≠ nx2 fr ∧ seen s' (nxt g least p.1 t)) ∧
    (∃ e, q' = q ++ e ∧ (∀ x ∈ e, ∃ p ∈ r, stayB least (nd g p.1) = true ∧ x.1 = nxt g least p.1 t)) ∧ (∀ x, 0 ≤ x → seen s' x → seen s x ∨ (x, ()) ∈ q') ∧ q'.length + cntF s' = q.length + cntF s
  | [], s, q, s', q', hs, _, h => by
    rw [bfsI_nil] at h
    injection h with h
    injection h with h1 h2
    subst h1; subst h2
    exact ⟨hs, fun _ _ h => h, fun p hp => absurd hp (by simp), ⟨[], by simp, fun x hx => absurd hx (by simp)⟩, fun _ _ h => .inl h, rfl⟩
  | p :: r, s, q, s', q', hs, hr, h => by
    rw [bfsI_cons] at h
    have hr' : ∀ p ∈ r, stayB least (nd g p.1) = true → 0 ≤ nxt g least p.1 t ∧ nxt g least p.1 t < 2 * (g.length : Int) := fun p hp => hr p (List.mem_cons_of_mem _ hp)
    by_cases hst : stayB least (nd g p.1) = true
    · rw [if_pos hst] at h
      have hn := hr p (by simp) hst
      by_cases ht : nxt g least p.1 t = nx2 fr
      · rw [if_pos ht] at h; cases h
      · rw [if_neg ht] at h
        by_cases hse : (getE tB s (nxt g least p.1 t).toNat).1 = true
        · rw [if_pos hse] at h
          obtain ⟨h1, h2, h3, ⟨e, h4, h5⟩, h6, h7⟩ := bfsI_some r s q hs hr' h
          refine ⟨h1, h2, ?_, ⟨e, h4, fun x hx => ?_⟩, h6, h7⟩
          · intro p' hp' hst'
            rcases List.mem_cons.1 hp' with e | e
            · subst e; exact ⟨ht, h2 _ hn.1 hse⟩
            · exact h3 p' e hst'
          · obtain ⟨p', hp', h⟩ := h5 x hx
            exact ⟨p', List.mem_cons_of_mem _ hp', h⟩
        · rw [if_neg hse] at h
          have hlt : (nxt g least p.1 t).toNat < s.length := by rw [hs]; omega
          have hc := cntF_set s _ hlt (by simpa using hse)
          obtain ⟨h1, h2, h3, ⟨e, h4, h5⟩, h6, h7⟩ := bfsI_some r _ _ (by rw [List.length_set]; exact hs) hr' h
          refine ⟨h1, fun x hx h0 => h2 x hx ((seen_set hn.1 hlt hx).2 (.inl h0)), ?_, ⟨(nxt g least p.1 t, ()) :: e, by rw [h4]; simp, fun x hx => ?_⟩, ?_, ?_⟩
          · intro p' hp' hst'
            rcases List.mem_cons.1 hp' with e | e
            · subst e; exact ⟨ht, h2 _ hn.1 ((seen_set hn.1 hlt hn.1).2 (.inr rfl))⟩
            · exact h3 p' e hst'
          · rcases List.mem_cons.1 hx with e | e
            · exact ⟨p, by simp, hst, by rw [e]⟩
            · obtain ⟨p', hp', h⟩ := h5 x e
              exact ⟨p', List.mem_cons_of_mem _ hp', h⟩
          · intro x hx h0
            rcases h6 x hx h0 with h0 | h0
            · rcases (seen_set hn.1 hlt hx).1 h0 with h0 | h0
              · exact .inl h0
              · exact .inr (by rw [h4, h0]; simp)
            · exact .inr h0
          · rw [h7]; simp only [List.length_append, List.length_cons, List.length_nil]; omega
    · rw [if_neg hst] at h
      obtain ⟨h1, h2, h3, ⟨e, h4, h5⟩, h6, h7⟩ := bfsI_some r s q hs hr' h
      refine ⟨h1, h2, ?_, ⟨e, h4, fun x hx => ?_⟩, h6, h7⟩
      · intro p' hp' hst'
        rcases List.mem_cons.1 hp' with e | e
        · subst e; exact absurd hst' hst
        · exact h3 p' e hst'
      · obtain ⟨p', hp', h⟩ := h5 x hx
        exact ⟨p', List.mem_cons_of_mem _ hp', h⟩
theorem bfsI_none {g : List Nd} {fr least t : Int} : ∀ (r : List (El tP)) (s : List (El tB)) (q : List (El tI)), bfsI g fr least t r s q = none → ∃ p ∈ r, stayB least (nd g p.1) = true ∧ nxt g least p.1 t = nx2 fr
  | [], s, q, h => by rw [bfsI_nil] at h; cases h
  | p :: r, s, q, h => by
    rw [bfsI_cons] at h
    by_cases hst : stayB least (nd g p.1) = true
    · rw [if_pos hst] at h
      by_cases ht : nxt g least p.1 t = nx2 fr
      · exact ⟨p, by simp, hst, ht⟩
      · rw [if_neg ht] at h
        split at h
        · obtain ⟨p', hp', h⟩ := bfsI_none r _ _ h
          exact ⟨p', List.mem_cons_of_mem _ hp', h⟩
        · obtain ⟨p', hp', h⟩ := bfsI_none r _ _ h
          exact ⟨p', List.mem_cons_of_mem _ hp', h⟩
    · rw [if_neg hst] at h
      obtain ⟨p', hp', h⟩ := bfsI_none r _ _ h
      exact ⟨p', List.mem_cons_of_mem _ hp', h⟩
theorem toG_lt {g : List Nd} {i : Int} {p : El tP} (hp : p ∈ toG g i) : 0 ≤ p.1 ∧ p.1 < (g.length : Int) := by
  obtain ⟨k, e, hk⟩ := toOut_at (i := i) 0 g p (by simpa [toG] using hp)
  rw [e]; omega
theorem mem_getE {q : List (El tI)} {x : El tI} (h : x ∈ q) : ∃ i, i < q.length ∧ getE tI q i = x := by
  obtain ⟨i, hi, e⟩ := List.getElem_of_mem h
  refine ⟨i, hi, ?_⟩
  unfold getE
  rw [List.getD_eq_getElem?_getD, List.getElem?_eq_getElem hi, Option.getD_some, e]
theorem getE_app {q e : List (El tI)} {i : Nat} (h : i < q.length) : getE tI (q ++ e) i = getE tI q i := by
  unfold getE
  simp [List.getD_eq_getElem?_getD, List.getElem?_append_left h]
theorem bfsO_iff {g : List Nd} {fr least t0 : Int} (hg : g.length ≤ 32) : ∀ (f i : Nat) (s : List (El tB)) (q : List (El tI)), s.length = 2 * g.length → inQ g q → i ≤ q.length → q.length + cntF s ≤ 2 * g.length + 1 → f + i = 2 * g.length + 2 →
    (t0, ()) ∈ q → (∀ x ∈ q, x.1 = t0 ∨ Way (St g least) t0 x.1) → (∀ x, 0 ≤ x → seen s x → (x, ()) ∈ q) → (∀ j, j < i → ∀ t', St g least (getE tI q j).1 t' → t' ≠ nx2 fr ∧ seen s t') →
    (bfsO g fr least f i s q = true ↔ Way (St g least) t0 (nx2 fr))
  | 0, i, s, q, _, _, hi, hc, hf, _, _, _, _ => by omega
  | f + 1, i, s, q, hs, hq, hi, hc, hf, h0, hreach, hseen, hdone => by
    rw [bfsO_s]
    by_cases hlt : i < q.length
    · rw [if_pos hlt]
      have hx := hq _ (getE_mem q hlt)
      have hrange : ∀ p ∈ toG g (half (getE tI q i).1), stayB least (nd g p.1) = true → 0 ≤ nxt g least p.1 (getE tI q i).1 ∧ nxt g least p.1 (getE tI q i).1 < 2 * (g.length : Int) := fun p hp _ => nxt_in hg (toG_lt hp) hx.1
      cases hb : bfsI g fr least (getE tI q i).1 (toG g (half (getE tI q i).1)) s q with
      | none =>
        simp only [true_iff]
        obtain ⟨p, hp, hst, e⟩ := bfsI_none _ _ _ hb
        have hstep : St g least (getE tI q i).1 (nx2 fr) := ⟨p, hp, hst, e.symm⟩
        rcases hreach _ (getE_mem q hlt) with h | h
        · rw [h] at hstep; exact .one hstep
        · exact .more h hstep
      | some r =>
        obtain ⟨s', q'⟩ := r
        obtain ⟨h1, h2, h3, ⟨e, h4, h5⟩, h6, h7⟩ := bfsI_some _ s q hs hrange hb
        simp only
        subst h4
        refine bfsO_iff hg f (i + 1) s' (q ++ e) h1 ?_ ?_ (by omega) (by omega) (List.mem_append_left _ h0) ?_ ?_ ?_
        · intro x hx'
          rcases List.mem_append.1 hx' with h | h
          · exact hq x h
          · obtain ⟨p, hp, hst, ex⟩ := h5 x h
            rw [ex]; exact hrange p hp hst
        · simp only [List.length_append]; omega
        · intro x hx'
          rcases List.mem_append.1 hx' with h | h
          · exact hreach x h
          · obtain ⟨p, hp, hst, ex⟩ := h5 x h
            have hstep : St g least (getE tI q i).1 x.1 := ⟨p, hp, hst, ex⟩
            rcases hreach _ (getE_mem q hlt) with h | h
            · rw [h] at hstep; exact .inr (.one hstep)
            · exact .inr (.more h hstep)
        · intro x hx' hs'
          rcases h6 x hx' hs' with h | h
          · exact List.mem_append_left _ (hseen x hx' h)
          · exact h
        · intro j hj t' ht'
          by_cases ej : j = i
          · subst ej
            rw [getE_app hlt] at ht'
            obtain ⟨p, hp, hst, et⟩ := ht'
            rw [et]
            exact h3 p hp hst
          · rw [getE_app (by omega)] at ht'
            have := hdone j (by omega) t' ht'
            refine ⟨this.1, h2 t' ?_ this.2⟩
            obtain ⟨p, hp, hst, et⟩ := ht'
            rw [et]
            exact (nxt_in hg (toG_lt hp) (hq _ (getE_mem q (by omega : j < q.length))).1).1
    · rw [if_neg hlt]
      simp only [Bool.false_eq_true, false_iff]
      intro hw
      have key : ∀ t, Way (St g least) t0 t → t ≠ nx2 fr ∧ (t, ()) ∈ q := by
        intro t ht
        have stp : ∀ a t', (a, ()) ∈ q → St g least a t' → t' ≠ nx2 fr ∧ (t', ()) ∈ q := fun a t' ha hst => by
          obtain ⟨j, hj, ej⟩ := mem_getE ha
          have hst' : St g least (getE tI q j).1 t' := by rw [ej]; exact hst
          have := hdone j (by omega) t' hst'
          refine ⟨this.1, hseen t' ?_ this.2⟩
          obtain ⟨p, hp, hs2, et⟩ := hst'
          rw [et]
          exact (nxt_in hg (toG_lt hp) (hq _ (getE_mem q hj)).1).1
        induction ht with
        | one r => exact stp _ _ h0 r
        | more _ r ih => exact stp _ _ ih.2 r
      exact (key _ hw).1 rfl
theorem half_of {a f : Nat} (ha : a < 32) (hf : f < 2) : half ((2 * a + f : Nat) : Int) = (a : Int) := by
  unfold half
  rw [Int.tdiv_eq_ediv_of_nonneg (by omega), wrapI (by omega) (by omega)]
  omega
theorem nxt_of {g : List Nd} {least : Int} {a f b : Nat} (hb : b < 32) (hf : f < 2) : nxt g least (b : Int) ((2 * a + f : Nat) : Int) = ((2 * b + (if (nd g b).dep = least then 1 else f) : Nat) : Int) := by
  have hd : dbl (b : Int) = 2 * b := wrapI (by omega) (by omega)
  have hm : ((2 * a + f : Nat) : Int).tmod 2 = ((2 * a + f : Nat) : Int) % 2 := Int.tmod_eq_emod_of_nonneg (by omega)
  unfold nxt nx1 nx2
  rw [hd, hm]
  split
  · rw [wrapI (by omega) (by omega)]; omega
  · rw [wrapI (by omega) (by omega)]; omega
theorem st_iff {g : List Nd} {least : Int} (hg : g.length ≤ 32) {a f : Nat} (ha : a < g.length) (hf : f < 2) (hst : stayB least (nd g a) = true) {t' : Int} :
    St g least ((2 * a + f : Nat) : Int) t' ↔ ∃ b, Ed g least a b ∧ t' = ((2 * b + (if (nd g b).dep = least then 1 else f) : Nat) : Int) := by
  unfold St
  rw [half_of (by omega) hf]
  constructor
  · rintro ⟨p, hp, hs, e⟩
    have hb := toG_lt hp
    obtain ⟨b, eb⟩ : ∃ b : Nat, p.1 = (b : Int) := ⟨p.1.toNat, by omega⟩
    rw [eb] at hs e hb
    refine ⟨b, ⟨⟨p, hp, eb⟩, hst, hs⟩, ?_⟩
    rw [e, nxt_of (by omega) hf]
  · rintro ⟨b, ⟨⟨p, hp, eb⟩, _, hs⟩, e⟩
    have hb := toG_lt hp
    refine ⟨p, hp, by rw [eb]; exact hs, ?_⟩
    rw [e, eb]
    rw [eb] at hb
    rw [nxt_of (by omega) hf]
theorem st_from {g : List Nd} {least : Int} (hg : g.length ≤ 32) {fr f0 : Nat} (hfr : fr < g.length) (hf0 : f0 = if (nd g fr).dep = least then 1 else 0) (hst : stayB least (nd g fr) = true) {t : Int} (h : Way (St g least) ((2 * fr + f0 : Nat) : Int) t) :
    ∃ b f, t = ((2 * b + f : Nat) : Int) ∧ f < 2 ∧ Way (Ed g least) fr b ∧ (f = 1 → ∃ n, n < g.length ∧ (nd g n).dep = least ∧ (n = fr ∨ Way (Ed g least) fr n) ∧ (n = b ∨ Way (Ed g least) n b)) := by
  have h01 : f0 < 2 := by rw [hf0]; split <;> omega
  induction h with
  | one r =>
    obtain ⟨b, he, et⟩ := (st_iff hg hfr h01 hst).1 r
    refine ⟨b, _, et, by split <;> omega, .one he, ?_⟩
    intro h1
    by_cases hd : (nd g b).dep = least
    · exact ⟨b, fe_lt he.1, hd, .inr (.one he), .inl rfl⟩
    · rw [if_neg hd, hf0] at h1
      by_cases hd2 : (nd g fr).dep = least
      · exact ⟨fr, hfr, hd2, .inl rfl, .inr (.one he)⟩
      · rw [if_neg hd2] at h1; cases h1
  | more _ r ih =>
    obtain ⟨a, f, et, hf, hw, hm⟩ := ih
    rw [et] at r
    have hla : a < g.length ∧ stayB least (nd g a) = true := by
      cases hw with
      | one r => exact ⟨fe_lt r.1, r.2.2⟩
      | more _ r => exact ⟨fe_lt r.1, r.2.2⟩
    obtain ⟨b, he, et⟩ := (st_iff hg hla.1 hf hla.2).1 r
    refine ⟨b, _, et, by split <;> omega, .more hw he, ?_⟩
    intro h1
    by_cases hd : (nd g b).dep = least
    · exact ⟨b, fe_lt he.1, hd, .inr (.more hw he), .inl rfl⟩
    · rw [if_neg hd] at h1
      obtain ⟨n, hn, hdn, h2, h3⟩ := hm h1
      refine ⟨n, hn, hdn, h2, .inr ?_⟩
      rcases h3 with h3 | h3
      · subst h3; exact .one he
      · exact .more h3 he
theorem st_to {g : List Nd} {least : Int} (hg : g.length ≤ 32) {a b : Nat} (ha : a < g.length) (h : Way (Ed g least) a b) : ∀ f, f < 2 → ∃ f', f' < 2 ∧ Way (St g least) ((2 * a + f : Nat) : Int) ((2 * b + f' : Nat) : Int) ∧ (f = 1 → f' = 1) ∧ ((nd g b).dep = least → f' = 1) := by
  induction h with
  | one r =>
    intro f hf
    refine ⟨_, ?_, .one ((st_iff hg ha hf r.2.1).2 ⟨_, r, rfl⟩), ?_, ?_⟩
    · split <;> omega
    · intro h; split
      · rfl
      · exact h
    · intro h; rw [if_pos h]
  | @more j k hw r ih =>
    intro f hf
    obtain ⟨f1, hf1, hw1, h1, h2⟩ := ih f hf
    have hla : j < g.length ∧ stayB least (nd g (j : Int)) = true := by
      cases hw with
      | one r => exact ⟨fe_lt r.1, r.2.2⟩
      | more _ r => exact ⟨fe_lt r.1, r.2.2⟩
    refine ⟨_, ?_, .more hw1 ((st_iff hg hla.1 hf1 hla.2).2 ⟨_, r, rfl⟩), ?_, ?_⟩
    · split <;> omega
    · intro h; split
      · rfl
      · exact h1 h
    · intro h; rw [if_pos h]
theorem rstuck_iff {g : List Nd} (hg : g.length ≤ 32) {fr k : Nat} (hfr : fr < g.length) : rstuckB g (fr : Int) (k : Int) = true ↔ backI g k fr = true := by
  rw [backI_iff hfr]
  by_cases hst : stayB (k : Int) (nd g fr) = true
  · rw [show rstuckB g (fr : Int) (k : Int) = bfsO g (fr : Int) (k : Int) (2 * g.length + 2) 0 (falseR (2 * g.length)) [(if (nd g (fr : Int)).dep = (k : Int) then nx2 (fr : Int) else dbl (fr : Int), ())] from rstuck_y hst]
    have hd : dbl (fr : Int) = 2 * (fr : Int) := wrapI (by omega) (by omega)
    have h2 : nx2 (fr : Int) = ((2 * fr + 1 : Nat) : Int) := by unfold nx2; rw [hd, wrapI (by omega) (by omega)]; omega
    have h0 : (if (nd g (fr : Int)).dep = (k : Int) then nx2 (fr : Int) else dbl (fr : Int)) = ((2 * fr + (if (nd g (fr : Int)).dep = (k : Int) then 1 else 0) : Nat) : Int) := by
      split
      · exact h2
      · rw [hd]; omega
    rw [h0]
    generalize hf0 : (if (nd g (fr : Int)).dep = (k : Int) then 1 else 0) = f0
    have h01 : f0 < 2 := by rw [← hf0]; split <;> omega
    rw [bfsO_iff (t0 := ((2 * fr + f0 : Nat) : Int)) hg _ 0 _ _ (by simp [falseR]) ?_ (Nat.zero_le _) ?_ (by omega) (by simp) ?_ ?_ (fun j hj => absurd hj (Nat.not_lt_zero _))]
    · constructor
      · intro hw
        obtain ⟨b, f, e, hf, hwb, hm⟩ := st_from hg hfr hf0.symm hst hw
        rw [h2] at e
        have eb : b = fr := by omega
        have ef : f = 1 := by omega
        subst eb
        obtain ⟨n, hn, hdn, h3, h4⟩ := hm ef
        refine ⟨n, hn, hdn, ?_, ?_⟩
        · rcases h3 with h3 | h3
          · rw [h3]; exact hwb
          · exact h3
        · rcases h4 with h4 | h4
          · rw [h4]; exact hwb
          · exact h4
      · rintro ⟨n, hn, hdn, hw1, hw2⟩
        obtain ⟨f1, hf1, hs1, _, q1⟩ := st_to hg hfr hw1 f0 h01
        obtain ⟨f2, hf2, hs2, q2, _⟩ := st_to hg hn hw2 f1 hf1
        have e1 := q1 hdn
        have e2 := q2 e1
        rw [h2, ← e2]
        exact hs1.trans hs2
    · intro x hx
      have e := List.mem_singleton.1 hx
      rw [e]
      show 0 ≤ ((2 * fr + f0 : Nat) : Int) ∧ ((2 * fr + f0 : Nat) : Int) < _
      omega
    · rw [cntF_rep]; simp only [List.length_cons, List.length_nil]; omega
    · intro x hx
      have e := List.mem_singleton.1 hx
      rw [e]; exact .inl rfl
    · intro x hx hs
      exfalso
      unfold seen getE falseR at hs
      rw [List.getD_eq_getElem?_getD, List.getElem?_replicate] at hs
      split at hs <;> cases hs
  · rw [show rstuckB g (fr : Int) (k : Int) = false from rstuck_n hst]
    constructor
    · intro h; cases h
    · rintro ⟨n, _, _, hw, _⟩
      obtain ⟨_, he⟩ := hw.first
      exact absurd he.2.1 hst
theorem stL_spec {g : List Nd} {k a : Nat} : ∀ (f i : Nat), i + f = a → (∀ j, i ≤ j → j < stL g k a f i → backI g k j = false) ∧ (stL g k a f i < a → backI g k (stL g k a f i) = true) ∧ i ≤ stL g k a f i ∧ stL g k a f i ≤ a
  | 0, i, h => by rw [stL_0]; exact ⟨fun j h1 h2 => by omega, fun h1 => by omega, by omega, by omega⟩
  | f + 1, i, h => by
    rw [stL_s]
    by_cases hb : backI g k i = true
    · rw [if_pos hb]; exact ⟨fun j h1 h2 => by omega, fun _ => hb, by omega, by omega⟩
    · rw [if_neg hb]
      obtain ⟨h1, h2, h3, h4⟩ := stL_spec (g := g) (k := k) (a := a) f (i + 1) (by omega)
      refine ⟨fun j hj hj2 => ?_, h2, by omega, h4⟩
      by_cases e : j = i
      · subst e; simpa using hb
      · exact h1 j (by omega) hj2
theorem stW_spec {g : List Nd} : ∀ K, (∀ j, j < stW g K → ∀ k, k < K → backI g k j = false) ∧ (stW g K < g.length → ∃ k, k < K ∧ backI g k (stW g K) = true) ∧ stW g K ≤ g.length
  | 0 => ⟨fun j _ k hk => absurd hk (Nat.not_lt_zero _), fun h => absurd h (by rw [stW_0]; omega), Nat.le_refl _⟩
  | K + 1 => by
    obtain ⟨h1, h2, h3⟩ := stW_spec (g := g) K
    obtain ⟨q1, q2, _, q4⟩ := stL_spec (g := g) (k := K) (a := stW g K) (stW g K) 0 (by omega)
    rw [← stW_s] at q1 q2 q4
    refine ⟨fun j hj k hk => ?_, fun hl => ?_, by omega⟩
    · by_cases e : k = K
      · subst e; exact q1 j (Nat.zero_le _) hj
      · exact h1 j (by omega) k (by omega)
    · by_cases e : stW g (K + 1) < stW g K
      · exact ⟨K, by omega, q2 e⟩
      · have e2 : stW g (K + 1) = stW g K := by omega
        rw [e2] at hl ⊢
        obtain ⟨k, hk, hb⟩ := h2 hl
        exact ⟨k, by omega, hb⟩
theorem stuckG_spec (g : List Nd) : (∀ j, j < stuckG g → ∀ k, k < 4 → backI g k j = false) ∧ (stuckG g < g.length → ∃ k, k < 4 ∧ backI g k (stuckG g) = true) ∧ stuckG g ≤ g.length := by
  rw [stuckG_eq]; exact stW_spec 4
theorem rsL_iff {g : List Nd} {i : Nat} : ∀ (f l : Nat), rsL g i f l = true ↔ ∃ x, l ≤ x ∧ x < l + f ∧ rstuckB g (i : Int) (x : Int) = true
  | 0, l => by
    rw [rsL_0]
    constructor
    · intro h; cases h
    · rintro ⟨x, h1, h2, _⟩; omega
  | f + 1, l => by
    rw [rsL_s]
    by_cases h : rstuckB g (i : Int) (l : Int) = true
    · rw [if_pos h]
      exact ⟨fun _ => ⟨l, by omega, by omega, h⟩, fun _ => rfl⟩
    · rw [if_neg h, rsL_iff f (l + 1)]
      constructor
      · rintro ⟨x, h1, h2, h3⟩; exact ⟨x, by omega, by omega, h3⟩
      · rintro ⟨x, h1, h2, h3⟩
        refine ⟨x, ?_, by omega, h3⟩
        by_cases e : x = l
        · subst e; exact absurd h3 h
        · omega
theorem stay_dep {least : Int} {n : Nd} (h : stayB least n = true) : least ≤ n.dep := by
  unfold stayB at h
  by_cases h1 : n.dep > least
  · omega
  · rw [decide_eq_false h1] at h
    cases h2 : (n.dep == least) with
    | true => have := eq_of_beq h2; omega
    | false => rw [h2] at h; cases h
theorem rs_iff {g : List Nd} (hg : g.length ≤ 32) (hd : ∀ x : Nd, x ∈ g → 0 ≤ Nd.dep x ∧ Nd.dep x ≤ 3) {i : Nat} (hi : i < g.length) : rsL g i ((nd g (i : Int)).dep + 1).toNat 0 = true ↔ ∃ k, k < 4 ∧ backI g k i = true := by
  have hdi := hd _ (getE_mem g hi)
  rw [rsL_iff]
  constructor
  · rintro ⟨x, _, h2, h3⟩
    refine ⟨x, ?_, (rstuck_iff hg hi).1 h3⟩
    have : (nd g (i : Int)).dep = (Nd.dep (getE tN g i)) := rfl
    omega
  · rintro ⟨k, hk, hb⟩
    refine ⟨k, Nat.zero_le _, ?_, (rstuck_iff hg hi).2 hb⟩
    obtain ⟨n, _, _, hw, _⟩ := (backI_iff hi).1 hb
    obtain ⟨_, he⟩ := hw.first
    have := stay_dep he.2.1
    omega
theorem rsI_drop {g : List Nd} (hg : g.length ≤ 32) (hd : ∀ x : Nd, x ∈ g → 0 ≤ Nd.dep x ∧ Nd.dep x ≤ 3) : ∀ (f i : Nat), i + f = g.length → i ≤ stuckG g → rsI g i (g.drop i) = if stuckG g < g.length then some (stuckG g) else none
  | 0, i, h, h1 => by
    rw [List.drop_eq_nil_of_le (by omega), rsI_n, if_neg (by omega)]
  | f + 1, i, h, h1 => by
    have hi : i < g.length := by omega
    rw [drop_get g hi, rsI_s]
    have hr := rs_iff hg hd hi
    rw [show (nd g (i : Int)).dep = (Nd.dep (getE tN g i)) from rfl] at hr
    obtain ⟨q1, q2, q3⟩ := stuckG_spec g
    by_cases hs : rsL g i ((Nd.dep (getE tN g i)) + 1).toNat 0 = true
    · rw [if_pos hs]
      obtain ⟨k, hk, hb⟩ := hr.1 hs
      have : ¬ i < stuckG g := fun hlt => by rw [q1 i hlt k hk] at hb; cases hb
      have e : stuckG g = i := by omega
      rw [e, if_pos hi]
    · rw [if_neg hs]
      refine rsI_drop hg hd f (i + 1) (by omega) ?_
      by_cases e : stuckG g = i
      · exfalso
        apply hs
        apply hr.2
        rw [← e]
        exact q2 (by omega)
      · omega
theorem check_same (g : List Nd) : rcheckG g = checkG g := by
  by_cases hp : (putG g).2 ≠ 0
  · rw [rck_put hp, check_put hp]
  · cases hb : badL g 0 g with
    | some i => rw [rck_bad hp hb, check_bad hp hb]
    | none =>
      have hp0 := Decidable.not_not.1 hp
      have hr := rsI_drop (put_few hp0).1 (put_dep hp0) g.length 0 (by omega) (Nat.zero_le _)
      rw [List.drop_zero] at hr
      by_cases hs : stuckG g < g.length
      · rw [if_pos hs] at hr
        rw [rck_cyc hp hb hr, check_cyc hp hb hs]
      · rw [if_neg hs] at hr
        rw [rck_ok hp hb hr, check_ok hp hb hs]
end Go.Proofs.Ytbgcgokikekmoaa

/- Layer 10: the statement CheckAll. -/
namespace Go.Proofs.Ytbgcgokikekmoaa
set_option maxRecDepth 100000
open Go Go.RowKit Go.Proofs.Ytbgcgokikekmoaa.Eng
theorem ins_wide {g : List Nd} {top : Int} (h : insG g top = true) (ht : top ≤ 1000) : wide g := by
  obtain ⟨_, h1, h2⟩ := ins_fit h ht
  exact ⟨by omega, fun x hx => by have := h2 x hx; omega⟩
theorem same_self (g : List Nd) : eqG g g = true := (eqG_iff g g).2 rfl
attribute [local irreducible] checkG rcheckG
def k_lall : Sig := .arg (shR tN) fun g => .done { pre := True, res := B true }
set_option maxHeartbeats 8000000 in
theorem c_lall : FnOk Try.prog 4 k_lall.con := by
  refine fnOkS mixed tys_ok (cs := [(9, k_ins.con), (10, k_works.con), (11, k_own.con), (15, k_check.con), (16, k_rcheck.con), (14, k_rsame.con)]) ⟨c_ins, c_works, c_own, c_check, c_rcheck, c_rsame, trivial⟩ Try.func4 rfl (by kernel_rfl) Try.ntmps4 _ (h := ?_)
  intro g
  refine ⟨rfl, fun _ => ?_⟩
  conv => whnf
  repeat' ((first
    | with_reducible refine ⟨fun h => h, ?_⟩
    | with_reducible refine ⟨pk1, ?_⟩
    | with_reducible refine ⟨pk2, ?_⟩
    | with_reducible refine ⟨pk3, ?_⟩
    | with_reducible refine ⟨pk4, ?_⟩
    | with_reducible refine ⟨pk5, ?_⟩
    | with_reducible refine ⟨pk6, ?_⟩
    | with_reducible refine ⟨trivial, ?_⟩
    | with_reducible refine ⟨fun _ => trivial, ?_⟩
    | with_reducible refine ⟨rfl, ?_⟩
    | with_reducible refine every_i (fun hd => ?_)
    | with_reducible refine everyN_i (fun k hk => ?_)
    | with_reducible refine everyD_i (fun d hd => ?_)
    | with_reducible refine fork_t (by assumption) ?_
    | with_reducible refine fork_f (by assumption) ?_
    | refine fork_t rfl ?_
    | refine fork_f rfl ?_
    | with_reducible refine fork_i (fun h => ?_) (fun h => ?_)
    | with_reducible refine both_i ?_ ?_
    | ((with_reducible refine alike_i ?_); exact ⟨rfl, rfl, rfl⟩)
    | ((with_reducible refine fin_i ?_); (conv => whnf); refine ⟨rfl, ?_⟩)
    | refine ⟨of_decide_eq_true rfl, ?_⟩
    | refine ⟨fun _ => of_decide_eq_true rfl, ?_⟩
    | ((with_reducible refine ⟨?_, ?_⟩); (focus (intros; simp_all; done)))
    | ((with_reducible refine ⟨?_, ?_⟩); (focus (intros; omega)))) <;> (try (conv => whnf)))
  · all_goals ((with_reducible refine leaf_i ?_); (conv => whnf))
    repeat' ((with_reducible refine And.intro ?_ ?_) <;> (try (conv => whnf)))
    all_goals (try (first | with_reducible rfl | exact True.intro | rfl | exact id | exact fun h => h | exact fun _ => rfl))
  · have hb : insG g 36 = true := by
      have h' : (!insG g 36) = false := h
      simpa using h'
    obtain ⟨hf, hl, hx⟩ := ins_fit hb (by decide)
    have hw := ins_wide hb (by decide)
    refine ⟨⟨by omega, fun x hh => Nat.le_trans (hx x hh) (by decide)⟩, ?_⟩
    (conv => whnf)
    conv => whnf
    repeat' ((first
      | with_reducible refine ⟨fun h => h, ?_⟩
      | with_reducible refine ⟨pk1, ?_⟩
      | with_reducible refine ⟨pk2, ?_⟩
      | with_reducible refine ⟨pk3, ?_⟩
      | with_reducible refine ⟨pk4, ?_⟩
      | with_reducible refine ⟨pk5, ?_⟩
      | with_reducible refine ⟨pk6, ?_⟩
      | with_reducible refine ⟨trivial, ?_⟩
      | with_reducible refine ⟨fun _ => trivial, ?_⟩
      | with_reducible refine ⟨rfl, ?_⟩
      | with_reducible refine every_i (fun hd => ?_)
      | with_reducible refine everyN_i (fun k hk => ?_)
      | with_reducible refine everyD_i (fun d hd => ?_)
      | with_reducible refine fork_t (by assumption) ?_
      | with_reducible refine fork_f (by assumption) ?_
      | refine fork_t rfl ?_
      | refine fork_f rfl ?_
      | with_reducible refine fork_i (fun h => ?_) (fun h => ?_)
      | with_reducible refine both_i ?_ ?_
      | ((with_reducible refine alike_i ?_); exact ⟨rfl, rfl, rfl⟩)
      | ((with_reducible refine fin_i ?_); (conv => whnf); refine ⟨rfl, ?_⟩)
      | refine ⟨hf, ?_⟩
      | refine ⟨fun _ => hf, ?_⟩
      | refine ⟨hw, ?_⟩
      | refine ⟨of_decide_eq_true rfl, ?_⟩
      | refine ⟨fun _ => of_decide_eq_true rfl, ?_⟩
      | ((with_reducible refine ⟨?_, ?_⟩); (focus (intros; simp_all; done)))
      | ((with_reducible refine ⟨?_, ?_⟩); (focus (intros; omega)))) <;> (try (conv => whnf)))
    all_goals ((with_reducible refine leaf_i ?_); (conv => whnf))
    repeat' ((with_reducible refine And.intro ?_ ?_) <;> (try (conv => whnf)))
    all_goals (try (first | with_reducible rfl | exact True.intro | rfl | exact id | exact fun h => h | exact fun _ => rfl))
    all_goals (first | (rw [check_same, beq_self_eq_true, beq_self_eq_true, same_self]; rfl) | trace_state)
end Go.Proofs.Ytbgcgokikekmoaa

/- Layer 10 in plain Lean: where a graph may be run all nodes are ordered. -/
namespace Go.Proofs.Ytbgcgokikekmoaa
open Go Go.Proofs.Ytbgcgokikekmoaa.Eng
theorem least_of {α : Type} {R : α → α → Prop} (ht : ∀ a b c, R a b → R b c → R a c) : ∀ (l : List α), l ≠ [] → (∀ x ∈ l, ¬ R x x) → ∃ m ∈ l, ∀ x ∈ l, ¬ R x m
  | [], h, _ => absurd rfl h
  | a :: r, _, hi => by
    by_cases hr : r = []
    · subst hr
      exact ⟨a, by simp, fun x hx => by rw [List.mem_singleton.1 hx]; exact hi a (by simp)⟩
    · obtain ⟨m, hm, hl⟩ := least_of ht r hr (fun x hx => hi x (List.mem_cons_of_mem _ hx))
      by_cases h : R a m
      · refine ⟨a, by simp, fun x hx hxa => ?_⟩
        rcases List.mem_cons.1 hx with e | e
        · subst e; exact hi _ (by simp) hxa
        · exact hl x e (ht _ _ _ hxa h)
      · refine ⟨m, List.mem_cons_of_mem _ hm, fun x hx => ?_⟩
        rcases List.mem_cons.1 hx with e | e
        · subst e; exact h
        · exact hl x e
theorem least_num {α : Type} (f : α → Int) : ∀ (l : List α), l ≠ [] → ∃ m ∈ l, ∀ x ∈ l, f m ≤ f x
  | [], h => absurd rfl h
  | a :: r, _ => by
    by_cases hr : r = []
    · subst hr
      exact ⟨a, by simp, fun x hx => by rw [List.mem_singleton.1 hx]; exact Int.le_refl _⟩
    · obtain ⟨m, hm, hl⟩ := least_num f r hr
      by_cases h : f a ≤ f m
      · refine ⟨a, by simp, fun x hx => ?_⟩
        rcases List.mem_cons.1 hx with e | e
        · subst e; exact Int.le_refl _
        · exact Int.le_trans h (hl x e)
      · refine ⟨m, List.mem_cons_of_mem _ hm, fun x hx => ?_⟩
        rcases List.mem_cons.1 hx with e | e
        · subst e; omega
        · exact hl x e
theorem way_in {R : Nat → Nat → Prop} {x n : Nat} (hx : Way R x n) (hn : Way R n x) : ∀ {a b : Nat}, Way R a b → (∃ c, (c = x ∨ Way R x c) ∧ c = a) → (b = x ∨ Way R b x) → Way (fun i j => R i j ∧ (i = x ∨ Way R x i) ∧ (i = x ∨ Way R i x) ∧ (j = x ∨ Way R x j) ∧ (j = x ∨ Way R j x)) a b := by
  intro a b h
  induction h with
  | one r =>
    rintro ⟨c, hc, rfl⟩ hb
    refine .one ⟨r, hc, ?_, ?_, hb⟩
    · rcases hb with hb | hb
      · subst hb; exact .inr (.one r)
      · exact .inr (.head r hb)
    · rcases hc with hc | hc
      · subst hc; exact .inr (.one r)
      · exact .inr (.more hc r)
  | @more j k hw r ih =>
    rintro ⟨c, hc, rfl⟩ hb
    have hj' := hb
    have hi : j = x ∨ Way R j x := by
      rcases hb with hb | hb
      · subst hb; exact .inr (.one r)
      · exact .inr (.head r hb)
    have hi2 : j = x ∨ Way R x j := by
      rcases hc with hc | hc
      · subst hc; exact .inr hw
      · exact .inr (hc.trans hw)
    refine .more (ih ⟨_, hc, rfl⟩ hi) ⟨r, hi2, hi, ?_, hj'⟩
    rcases hi2 with h | h
    · subst h; exact .inr (.one r)
    · exact .inr (.more h r)
theorem stay_of {least : Int} {n : Nd} (h : least ≤ n.dep) (hk : n.kind ≠ 9) : stayB least n = true := by
  unfold stayB
  by_cases h1 : n.dep > least
  · rw [decide_eq_true h1]; rfl
  · rw [decide_eq_false h1, show (n.dep == least) = true by rw [beq_iff_eq]; omega]
    simpa using hk
theorem fe_in {g : List Nd} {i j k : Nat} (hj : j < g.length) (hk : k < (Nd.ins (getE tN g j)).length) (e : (getE tI (Nd.ins (getE tN g j)) k).1 = (i : Int)) : Fe g i j := by
  have h1 : ∀ (n i : Int) (a : Int) (l : List (El tI)), (∃ x ∈ l, x.1 = i) → ∃ p ∈ toIn n i a l, p.1 = n := by
    intro n i a l
    induction l generalizing a with
    | nil => rintro ⟨x, hx, _⟩; cases hx
    | cons y r ih =>
      rintro ⟨x, hx, e⟩
      unfold toIn
      rcases List.mem_cons.1 hx with h | h
      · subst h; rw [if_pos e]; exact ⟨_, List.mem_cons_self .., rfl⟩
      · obtain ⟨p, hp, hp2⟩ := ih (a + 1) ⟨x, h, e⟩
        split
        · exact ⟨p, List.mem_cons_of_mem _ hp, hp2⟩
        · exact ⟨p, hp, hp2⟩
  have h2 : ∀ (i : Int) (l : List Nd) (n : Int) (j : Nat), j < l.length → (∃ x ∈ (Nd.ins (getE tN l j)), x.1 = i) → ∃ p ∈ toOut i n l, p.1 = n + j := by
    intro i l
    induction l with
    | nil => intro n j hj; exact absurd hj (Nat.not_lt_zero _)
    | cons y r ih =>
      intro n j hj hx
      unfold toOut
      cases j with
      | zero =>
        obtain ⟨p, hp, e⟩ := h1 n i 0 y.ins hx
        exact ⟨p, List.mem_append_left _ hp, by rw [e]; simp⟩
      | succ j =>
        obtain ⟨p, hp, e⟩ := ih (n + 1) j (by simpa using hj) hx
        exact ⟨p, List.mem_append_right _ hp, by rw [e]; push_cast; omega⟩
  obtain ⟨p, hp, e'⟩ := h2 (i : Int) g 0 j hj ⟨_, getE_mem _ hk, e⟩
  exact ⟨p, hp, by rw [e']; omega⟩
theorem some_free {g : List Nd} (hd : ∀ x : Nd, x ∈ g → 0 ≤ Nd.dep x ∧ Nd.dep x ≤ 3) (hs : ¬ stuckG g < g.length) (L : List Nat) (hL : L ≠ []) (hlt : ∀ x ∈ L, x < g.length) :
    ∃ n ∈ L, (nd g (n : Int)).kind = 9 ∨ ∀ k, k < (nd g (n : Int)).ins.length → ∀ i ∈ L, (getE tI (nd g (n : Int)).ins k).1 ≠ (i : Int) := by
  refine Classical.byContradiction fun hc => ?_
  have hc' : ∀ n ∈ L, (nd g (n : Int)).kind ≠ 9 ∧ ∃ k, k < (nd g (n : Int)).ins.length ∧ ∃ i ∈ L, (getE tI (nd g (n : Int)).ins k).1 = (i : Int) := fun n hn => by
    refine Classical.byContradiction fun hh => hc ⟨n, hn, ?_⟩
    by_cases h9 : (nd g (n : Int)).kind = 9
    · exact .inl h9
    · refine .inr fun k hk i hi e => hh ⟨h9, k, hk, i, hi, e⟩
  let R : Nat → Nat → Prop := fun i j => i ∈ L ∧ j ∈ L ∧ Fe g i j
  have hpre : ∀ n ∈ L, ∃ i ∈ L, R i n := fun n hn => by
    obtain ⟨_, k, hk, i, hi, e⟩ := hc' n hn
    exact ⟨i, hi, hi, hn, fe_in (hlt n hn) hk e⟩
  have hex : ∃ x ∈ L, Way R x x := by
    refine Classical.byContradiction fun hno => ?_
    obtain ⟨m, hm, hl⟩ := least_of (R := Way R) (fun a b c => Way.trans) L hL (fun x hx h => hno ⟨x, hx, h⟩)
    obtain ⟨i, hi, h⟩ := hpre m hm
    exact hl i hi (.one h)
  obtain ⟨x, hx, hw⟩ := hex
  have hR1 : ∀ {a b}, Way R a b → a ∈ L := fun h => by
    induction h with
    | one r => exact r.1
    | more _ _ ih => exact ih
  classical
  obtain ⟨n, hn, hmin⟩ := least_num (fun i : Nat => (nd g (i : Int)).dep) (L.filter fun i => decide (Way R x i ∧ Way R i x)) (fun h => by
    have : x ∈ L.filter fun i => decide (Way R x i ∧ Way R i x) := List.mem_filter.2 ⟨hx, by simpa using hw⟩
    rw [h] at this; cases this)
  obtain ⟨hnL, hnc⟩ := List.mem_filter.1 hn
  have hnc := of_decide_eq_true hnc
  have hdep := hd _ (getE_mem g (hlt n hnL))
  obtain ⟨l, hl⟩ : ∃ l : Nat, (nd g (n : Int)).dep = (l : Int) := ⟨(nd g (n : Int)).dep.toNat, by have : (nd g (n : Int)).dep = (Nd.dep (getE tN g n)) := rfl; omega⟩
  have hl4 : l < 4 := by have : (nd g (n : Int)).dep = (Nd.dep (getE tN g n)) := rfl; omega
  have hw2 : Way (Ed g (l : Int)) n n := by
    refine Way.mono ?_ (way_in hnc.2 hnc.1 (hnc.2.trans hnc.1) ⟨n, .inl rfl, rfl⟩ (.inl rfl))
    rintro a b ⟨⟨haL, hbL, hf⟩, h1, h2, h3, h4⟩
    have stays : ∀ c, c ∈ L → (c = n ∨ Way R n c) → (c = n ∨ Way R c n) → stayB (l : Int) (nd g (c : Int)) = true := fun c hcL q1 q2 => by
      refine stay_of ?_ (hc' c hcL).1
      rw [← hl]
      refine hmin c (List.mem_filter.2 ⟨hcL, decide_eq_true ⟨?_, ?_⟩⟩)
      · rcases q1 with q | q
        · rw [q]; exact hnc.1
        · exact hnc.1.trans q
      · rcases q2 with q | q
        · rw [q]; exact hnc.2
        · exact q.trans hnc.2
    exact ⟨hf, stays a haL h1 h2, stays b hbL h3 h4⟩
  have hb : backI g l n = true := (backI_iff (hlt n hnL)).2 ⟨n, hlt n hnL, hl, hw2, hw2⟩
  obtain ⟨q1, _, q3⟩ := stuckG_spec g
  have := q1 n (by have := hlt n hnL; omega) l hl4
  rw [hb] at this
  cases this
theorem ready_iff {th : List (El tB)} {i : Nat} {n : Nd} : readyB th i n = true ↔ (getE tB th i).1 = false ∧ (n.kind = 9 ∨ ∀ k, k < n.ins.length → (getE tB th (getE tI n.ins k).1.toNat).1 = true) := by
  unfold readyB
  cases h : (getE tB th i).1 with
  | true => simp
  | false =>
    cases h9 : (n.kind == 9) with
    | true =>
      have := eq_of_beq h9
      simp [this]
    | false =>
      have := ne_of_beq_false h9
      simp only [Bool.not_false, cond_true, cond_false, Bool.not_eq_true', true_and, this, false_or]
      rw [hasP_any, List.any_eq_false]
      constructor
      · intro hh k hk
        have := hh _ (getE_mem _ hk)
        unfold missB at this
        simpa using this
      · intro hh x hx
        obtain ⟨k, hk, e⟩ := mem_getE hx
        have := hh k hk
        rw [e] at this
        unfold missB
        simp [this]
theorem nextR_some {th : List (El tB)} : ∀ (l : List Nd) (a : Nat) {i : Nat}, nextR th a l = some i → a ≤ i ∧ i < a + l.length ∧ readyB th i (getE tN l (i - a)) = true ∧ ∀ j, a ≤ j → j < i → readyB th j (getE tN l (j - a)) = false
  | [], a, i, h => by unfold nextR at h; cases h
  | n :: r, a, i, h => by
    unfold nextR at h
    by_cases hr : readyB th a n = true
    · rw [if_pos hr] at h
      injection h with h; subst h
      refine ⟨Nat.le_refl _, by simp, ?_, fun j h1 h2 => by omega⟩
      rw [Nat.sub_self]; exact hr
    · rw [if_neg hr] at h
      obtain ⟨h1, h2, h3, h4⟩ := nextR_some r (a + 1) h
      refine ⟨by omega, by simp only [List.length_cons]; omega, ?_, ?_⟩
      · rw [show i - a = (i - (a + 1)) + 1 by omega]; exact h3
      · intro j hj hj2
        by_cases e : j = a
        · subst e; rw [Nat.sub_self]; show readyB th j n = false; simpa using hr
        · rw [show j - a = (j - (a + 1)) + 1 by omega]; exact h4 j (by omega) hj2
theorem nextR_none {th : List (El tB)} : ∀ (l : List Nd) (a : Nat), nextR th a l = none → ∀ j, j < l.length → readyB th (a + j) (getE tN l j) = false
  | [], a, h, j, hj => absurd hj (Nat.not_lt_zero _)
  | n :: r, a, h, j, hj => by
    unfold nextR at h
    by_cases hr : readyB th a n = true
    · rw [if_pos hr] at h; cases h
    · rw [if_neg hr] at h
      cases j with
      | zero => show readyB th a n = false; simpa using hr
      | succ j =>
        have := nextR_none r (a + 1) h j (by simpa using hj)
        rw [show a + (j + 1) = a + 1 + j by omega]; exact this
theorem next_there {g : List Nd} (hin : ∀ j, j < g.length → ∀ k, k < (nd g (j : Int)).ins.length → 0 ≤ (getE tI (nd g (j : Int)).ins k).1 ∧ (getE tI (nd g (j : Int)).ins k).1 < (g.length : Int))
    (hd : ∀ x : Nd, x ∈ g → 0 ≤ Nd.dep x ∧ Nd.dep x ≤ 3) (hs : ¬ stuckG g < g.length) {th : List (El tB)} (hl : th.length = g.length) (hc : cntF th ≠ 0) : ∃ i, nextR th 0 g = some i := by
  cases hn : nextR th 0 g with
  | some i => exact ⟨i, rfl⟩
  | none =>
    exfalso
    have hn := nextR_none g 0 hn
    have hL : (List.range g.length).filter (fun i => !(getE tB th i).1) ≠ [] := fun h => by
      apply hc
      unfold cntF
      rw [List.countP_eq_zero]
      intro x hx hx2
      obtain ⟨i, hi, e⟩ := List.getElem_of_mem hx
      have : i ∈ (List.range g.length).filter (fun i => !(getE tB th i).1) := List.mem_filter.2 ⟨List.mem_range.2 (by omega), by
        unfold getE
        rw [List.getD_eq_getElem?_getD, List.getElem?_eq_getElem hi, Option.getD_some, e]; exact hx2⟩
      rw [h] at this; cases this
    obtain ⟨n, hnL, hfree⟩ := some_free hd hs _ hL (fun x hx => List.mem_range.1 (List.mem_filter.1 hx).1)
    obtain ⟨hnr, hnf⟩ := List.mem_filter.1 hnL
    have hnlt := List.mem_range.1 hnr
    have := hn n hnlt
    rw [Nat.zero_add] at this
    have hr : readyB th n (getE tN g n) = true := by
      rw [ready_iff]
      refine ⟨by simpa using hnf, ?_⟩
      rcases hfree with h | h
      · exact .inl h
      · refine .inr fun k hk => ?_
        have hb := hin n hnlt k hk
        obtain ⟨i, hi⟩ : ∃ i : Nat, (getE tI (nd g (n : Int)).ins k).1 = (i : Int) := ⟨_, (Int.toNat_of_nonneg hb.1).symm⟩
        have hne : ¬ i ∈ (List.range g.length).filter (fun i => !(getE tB th i).1) := fun hi' => h k hk i hi' hi
        have e1 : (getE tI (Nd.ins (getE tN g n)) k).1 = (i : Int) := hi
        rw [e1]
        show (getE tB th i).1 = true
        refine Classical.byContradiction fun hf => hne (List.mem_filter.2 ⟨List.mem_range.2 ?_, ?_⟩)
        · rw [hi] at hb; omega
        · simpa using hf
    rw [hr] at this; cases this
def rordN (g : List Nd) : Nat → List (El tB) → List (El tI) → Option (List (El tI))
  | 0, _, out => some out
  | f + 1, th, out => match nextR th 0 g with
    | none => none
    | some i => rordN g f (th.set i (true, ())) (out ++ [((i : Int), ())])
def rorderC (g : List Nd) : List (El tI) × Int := if (rcheckG g).2 ≠ 0 then ([], (rcheckG g).2) else match rordN g g.length (falseR g.length) [] with
  | none => ([], 102)
  | some l => (l, 0)
theorem rordN_s (g : List Nd) (f : Nat) (th : List (El tB)) (out : List (El tI)) : rordN g (f + 1) th out = match nextR th 0 g with
    | none => none
    | some i => rordN g f (th.set i (true, ())) (out ++ [((i : Int), ())]) := rfl
theorem ordN_s (g : List Nd) (f : Nat) (th : List (El tB)) (out : List (El tI)) : ordN g (f + 1) th out = match nextR th 0 g with
    | none => out
    | some i => ordN g f (th.set i (true, ())) (out ++ [((i : Int), ())]) := rfl
theorem nextR_zero {g : List Nd} {th : List (El tB)} (hl : th.length = g.length) (hc : cntF th = 0) : nextR th 0 g = none := by
  cases h : nextR th 0 g with
  | none => rfl
  | some i =>
    exfalso
    obtain ⟨_, h2, h3, _⟩ := nextR_some g 0 h
    have hf := ready_f h3
    have hc2 := cntF_set th i (by omega) hf
    omega
theorem ord_all {g : List Nd} (hin : ∀ j, j < g.length → ∀ k, k < (nd g (j : Int)).ins.length → 0 ≤ (getE tI (nd g (j : Int)).ins k).1 ∧ (getE tI (nd g (j : Int)).ins k).1 < (g.length : Int))
    (hd : ∀ x : Nd, x ∈ g → 0 ≤ Nd.dep x ∧ Nd.dep x ≤ 3) (hs : ¬ stuckG g < g.length) : ∀ (f : Nat) (th : List (El tB)) (out : List (El tI)), th.length = g.length → cntF th = f → rordN g f th out = some (ordN g (f + 1) th out)
  | 0, th, out, hl, hc => by
    rw [ordN_s, nextR_zero hl hc]; rfl
  | f + 1, th, out, hl, hc => by
    obtain ⟨i, hi⟩ := next_there hin hd hs hl (by omega)
    obtain ⟨_, h2, h3, _⟩ := nextR_some g 0 hi
    have hc2 := cntF_set th i (by omega) (ready_f h3)
    rw [rordN_s, ordN_s, hi]
    exact ord_all hin hd hs f _ _ (by rw [List.length_set]; exact hl) (by omega)
theorem node_in {g : List Nd} (h : ∀ j : Nat, j < g.length → nodeE g (j : Int) = 0) : ∀ j, j < g.length → ∀ k, k < (nd g (j : Int)).ins.length → 0 ≤ (getE tI (nd g (j : Int)).ins k).1 ∧ (getE tI (nd g (j : Int)).ins k).1 < (g.length : Int) := fun j hj k hk => by
  have h0 := h j hj
  have hp : portsB g (nd g (j : Int)) = true := by
    refine Classical.byContradiction fun hn => ?_
    unfold nodeE at h0
    rw [if_neg (by omega)] at h0
    split at h0
    · cases h0
    · rw [if_pos (by simpa using hn)] at h0
      cases h0
  exact portsB_in hp _ (getE_mem _ hk)
theorem check_dep {g : List Nd} (h : (checkG g).2 = 0) : ∀ x : Nd, x ∈ g → 0 ≤ Nd.dep x ∧ Nd.dep x ≤ 3 := by
  by_cases h0 : (putG g).2 ≠ 0
  · rw [check_put h0] at h; exact absurd h h0
  · exact put_dep (Decidable.not_not.1 h0)
theorem order_same (g : List Nd) : rorderC g = orderC g := by
  unfold rorderC orderC
  rw [check_same]
  by_cases h : (checkG g).2 ≠ 0
  · rw [if_pos h, if_pos h]
  · rw [if_neg h, if_neg h]
    have h0 := Decidable.not_not.1 h
    obtain ⟨hf, hn, hs⟩ := check_parts h0
    rw [ord_all (node_in hn) (check_dep h0) hs g.length (falseR g.length) [] (by simp [falseR]) (cntF_rep _), orderG_eq]
end Go.Proofs.Ytbgcgokikekmoaa

/- Layer 10: the document's Order; rows of numbers that are the same. -/
namespace Go.Proofs.Ytbgcgokikekmoaa
set_option maxRecDepth 100000
open Go Go.RowKit Go.Proofs.Ytbgcgokikekmoaa.Eng
def k_sameI : Sig := .arg (shR tI) fun a => .arg (shR tI) fun b => .done { pre := a.length < 4611686018427387904, res := B (eqI a b) }
set_option maxHeartbeats 4000000 in
theorem c_sameI : FnOk Try.prog 19 k_sameI.con := by
  refine fnOkS mixed tys_ok (cs := []) trivial Try.func19 rfl (by kernel_rfl) Try.ntmps19 _ (h := ?_)
  intro l m
  refine ⟨rfl, fun hp => ?_⟩
  have hp' : l.length < 4611686018427387904 := hp
  conv => whnf
  repeat' ((first
    | with_reducible refine ⟨fun h => h, ?_⟩
    | with_reducible refine ⟨pk1, ?_⟩
    | with_reducible refine ⟨pk2, ?_⟩
    | with_reducible refine ⟨pk3, ?_⟩
    | with_reducible refine ⟨pk4, ?_⟩
    | with_reducible refine ⟨pk5, ?_⟩
    | with_reducible refine ⟨pk6, ?_⟩
    | with_reducible refine ⟨trivial, ?_⟩
    | with_reducible refine ⟨fun _ => trivial, ?_⟩
    | with_reducible refine ⟨rfl, ?_⟩
    | with_reducible refine every_i (fun hd => ?_)
    | with_reducible refine everyN_i (fun k hk => ?_)
    | with_reducible refine everyD_i (fun d hd => ?_)
    | with_reducible refine fork_t (by assumption) ?_
    | with_reducible refine fork_f (by assumption) ?_
    | refine fork_t rfl ?_
    | refine fork_f rfl ?_
    | with_reducible refine fork_i (fun h => ?_) (fun h => ?_)
    | with_reducible refine both_i ?_ ?_
    | ((with_reducible refine alike_i ?_); exact ⟨rfl, rfl, rfl⟩)
    | ((with_reducible refine fin_i ?_); (conv => whnf); refine ⟨rfl, ?_⟩)
    | refine ⟨of_decide_eq_true rfl, ?_⟩
    | refine ⟨fun _ => of_decide_eq_true rfl, ?_⟩
    | ((with_reducible refine ⟨?_, ?_⟩); (focus (intros; simp_all; done)))
    | ((with_reducible refine ⟨?_, ?_⟩); (focus (intros; omega)))) <;> (try (conv => whnf)))
  · have hn : l.length ≠ m.length := bnl_t h
    all_goals ((with_reducible refine leaf_i ?_); (conv => whnf))
    repeat' ((with_reducible refine And.intro ?_ ?_) <;> (try (conv => whnf)))
    all_goals (try (first | with_reducible rfl | exact True.intro | rfl | exact id | exact fun h => h | exact fun _ => rfl))
    all_goals (rw [eqI_len hn])
  · have hn : l.length = m.length := bnl_f h
    refine looped (σ := Nat) (fun j => [(5, I j)]) (fun _ => []) (fun j => j ≤ l.length ∧ eqI (l.drop j) (m.drop j) = eqI l m) (fun j => l.length - j) 0 ⟨Nat.zero_le _, rfl⟩ ?_ ?_
    · conv => whnf
      refine ⟨rfl, leaf_i ?_⟩
      repeat' ((with_reducible refine And.intro ?_ ?_) <;> (try (conv => whnf)))
      all_goals (try (first | with_reducible rfl | exact True.intro | rfl | exact id | exact fun h => h | exact fun _ => rfl))
    · rintro j ⟨hj, hl⟩
      dsimp only at hj hl ⊢
      have hi : decide ((j : Int) < (l.length : Int)) = true → 0 ≤ (j : Int) ∧ (j : Int) < (m.length : Int) := fun h => by have := lt_t h; omega
      conv => whnf
      repeat' ((first
        | with_reducible refine ⟨fun h => h, ?_⟩
        | with_reducible refine ⟨pk1, ?_⟩
        | with_reducible refine ⟨pk2, ?_⟩
        | with_reducible refine ⟨pk3, ?_⟩
        | with_reducible refine ⟨pk4, ?_⟩
        | with_reducible refine ⟨pk5, ?_⟩
        | with_reducible refine ⟨pk6, ?_⟩
        | with_reducible refine ⟨trivial, ?_⟩
        | with_reducible refine ⟨fun _ => trivial, ?_⟩
        | with_reducible refine ⟨rfl, ?_⟩
        | with_reducible refine every_i (fun hd => ?_)
        | with_reducible refine everyN_i (fun k hk => ?_)
        | with_reducible refine everyD_i (fun d hd => ?_)
        | with_reducible refine fork_t (by assumption) ?_
        | with_reducible refine fork_f (by assumption) ?_
        | refine fork_t rfl ?_
        | refine fork_f rfl ?_
        | with_reducible refine fork_i (fun h => ?_) (fun h => ?_)
        | with_reducible refine both_i ?_ ?_
        | ((with_reducible refine alike_i ?_); exact ⟨rfl, rfl, rfl⟩)
        | ((with_reducible refine fin_i ?_); (conv => whnf); refine ⟨rfl, ?_⟩)
        | refine ⟨hi (by assumption), ?_⟩
        | refine ⟨of_decide_eq_true rfl, ?_⟩
        | refine ⟨fun _ => of_decide_eq_true rfl, ?_⟩
        | ((with_reducible refine ⟨?_, ?_⟩); (focus (intros; simp_all; done)))
        | ((with_reducible refine ⟨?_, ?_⟩); (focus (intros; omega)))) <;> (try (conv => whnf)))
      · have hj' : j < l.length := lt_t (by assumption)
        have hx : (getE tI l j).1 ≠ (getE tI m j).1 := bne_t (by assumption)
        rw [eqI_step hj' (by omega), beq_eq_false_iff_ne.2 hx] at hl
        all_goals ((with_reducible refine leaf_i ?_); (conv => whnf))
        repeat' ((with_reducible refine And.intro ?_ ?_) <;> (try (conv => whnf)))
        all_goals (try (first | with_reducible rfl | exact True.intro | rfl | exact id | exact fun h => h | exact fun _ => rfl))
        all_goals (rw [← hl]; rfl)
      · have hj' : j < l.length := lt_t (by assumption)
        have hx : (getE tI l j).1 = (getE tI m j).1 := bne_f (by assumption)
        rw [eqI_step hj' (by omega), beq_iff_eq.2 hx, Bool.true_and] at hl
        refine next_i (j + 1) ⟨hj', hl⟩ (by omega) rfl rfl ?_
        conv => whnf
        refine ⟨rfl, leaf_i ?_⟩
        repeat' ((with_reducible refine And.intro ?_ ?_) <;> (try (conv => whnf)))
        all_goals (try (first | with_reducible rfl | exact True.intro | rfl | exact id | exact fun h => h | exact fun _ => rfl))
        all_goals exact wrapS (Nat.lt_trans hj' hp')
      · have hj' : l.length ≤ j := lt_f (by assumption)
        rw [eqI_end hj' (by omega)] at hl
        all_goals ((with_reducible refine leaf_i ?_); (conv => whnf))
        repeat' ((with_reducible refine And.intro ?_ ?_) <;> (try (conv => whnf)))
        all_goals (try (first | with_reducible rfl | exact True.intro | rfl | exact id | exact fun h => h | exact fun _ => rfl))
        all_goals (rw [← hl])
def restB (th : List (El tB)) (n : Nd) (k : Nat) : Bool := bif n.kind == 9 then true else !((n.ins.drop k).any fun x => missB th x.1)
theorem rest_0 (th : List (El tB)) (i : Nat) (n : Nd) : (!(getE tB th i).1 && restB th n 0) = readyB th i n := by
  unfold restB readyB
  rw [hasP_any, List.drop_zero]
  cases (getE tB th i).1 <;> simp
theorem rest_s {th : List (El tB)} {n : Nd} {k : Nat} (hk : k < n.ins.length) (m : Bool) : ((bif m then (bif n.kind == 9 then true else (getE tB th (getE tI n.ins k).1.toNat).1) else false) && restB th n (k + 1)) = (m && restB th n k) := by
  unfold restB
  rw [drop_get n.ins hk, List.any_cons]
  unfold missB
  cases m <;> cases (n.kind == 9) <;> simp
theorem rest_e {th : List (El tB)} {n : Nd} {k : Nat} (hk : n.ins.length ≤ k) : restB th n k = true := by
  unfold restB
  rw [List.drop_eq_nil_of_le hk]
  cases (n.kind == 9) <;> rfl
theorem rorder_no {g : List Nd} (h : (rcheckG g).2 ≠ 0) : rorderC g = ([], (rcheckG g).2) := by unfold rorderC; rw [if_pos h]
theorem rorder_cyc {g : List Nd} (h : ¬ (rcheckG g).2 ≠ 0) (h' : rordN g g.length (falseR g.length) [] = none) : rorderC g = ([], 102) := by unfold rorderC; rw [if_neg h, h']
theorem rorder_ok {g : List Nd} (h : ¬ (rcheckG g).2 ≠ 0) {l : List (El tI)} (h' : rordN g g.length (falseR g.length) [] = some l) : rorderC g = (l, 0) := by unfold rorderC; rw [if_neg h, h']
theorem rordN_0 (g : List Nd) (th : List (El tB)) (out : List (El tI)) : rordN g 0 th out = some out := rfl
theorem nextR_c (th : List (El tB)) (i : Nat) (n : Nd) (r : List Nd) : nextR th i (n :: r) = if readyB th i n = true then some i else nextR th (i + 1) r := rfl
theorem nextR_n (th : List (El tB)) (i : Nat) : nextR th i [] = none := rfl
theorem next_case {g : List Nd} {th : List (El tB)} {i : Nat} {nx : Int} (hn2 : (nx = -1 ∧ nextR th i (g.drop i) = nextR th 0 g) ∨ ∃ n : Nat, nx = n ∧ n < g.length ∧ nextR th 0 g = some n)
    (hc : (bif decide ((i : Int) < (g.length : Int)) then decide (nx < 0) else false) = false) : (nx = -1 ∧ nextR th 0 g = none) ∨ ∃ n : Nat, nx = n ∧ n < g.length ∧ nextR th 0 g = some n := by
  rcases hn2 with ⟨h1, h2⟩ | h2
  · left
    rw [h1] at hc
    cases h3 : decide ((i : Int) < (g.length : Int)) with
    | true => rw [h3] at hc; cases hc
    | false =>
      rw [List.drop_eq_nil_of_le (lt_f h3), nextR_n] at h2
      exact ⟨h1, h2.symm⟩
  · exact .inr h2
attribute [local irreducible] rcheckG rorderC rordN nextR restB readyB
def k_rOrder : Sig := .arg (shR tN) fun g => .done { pre := fitG g, res := .tup (.cons (.rl true tI (rorderC g).1) (.cons (I (rorderC g).2) .nil)) }
set_option maxHeartbeats 8000000 in
theorem c_rOrder : FnOk Try.prog 18 k_rOrder.con := by
  refine fnOkS mixed tys_ok (cs := [(16, k_rcheck.con)]) ⟨c_rcheck, trivial⟩ Try.func18 rfl (by kernel_rfl) Try.ntmps18 _ (h := ?_)
  intro g
  refine ⟨rfl, fun hp => ?_⟩
  have hp : fitG g := hp
  have hmk : ((rcheckG g).2 != 0) = false → (0 : Int) ≤ (g.length : Int) ∧ (g.length : Int) ≤ (g.length : Int) ∧ (g.length : Int) ≤ 1000000000 := fun h => by
    have h0 : (checkG g).2 = 0 := by rw [← check_same]; simpa using h
    have := (check_parts h0).1.1
    omega
  conv => whnf
  repeat' ((first
    | with_reducible refine ⟨fun h => h, ?_⟩
    | with_reducible refine ⟨pk1, ?_⟩
    | with_reducible refine ⟨pk2, ?_⟩
    | with_reducible refine ⟨pk3, ?_⟩
    | with_reducible refine ⟨pk4, ?_⟩
    | with_reducible refine ⟨pk5, ?_⟩
    | with_reducible refine ⟨pk6, ?_⟩
    | with_reducible refine ⟨trivial, ?_⟩
    | with_reducible refine ⟨fun _ => trivial, ?_⟩
    | with_reducible refine ⟨rfl, ?_⟩
    | with_reducible refine every_i (fun hd => ?_)
    | with_reducible refine everyN_i (fun k hk => ?_)
    | with_reducible refine everyD_i (fun d hd => ?_)
    | with_reducible refine fork_t (by assumption) ?_
    | with_reducible refine fork_f (by assumption) ?_
    | refine fork_t rfl ?_
    | refine fork_f rfl ?_
    | with_reducible refine fork_i (fun h => ?_) (fun h => ?_)
    | with_reducible refine both_i ?_ ?_
    | ((with_reducible refine alike_i ?_); exact ⟨rfl, rfl, rfl⟩)
    | ((with_reducible refine fin_i ?_); (conv => whnf); refine ⟨rfl, ?_⟩)
    | refine ⟨hp, ?_⟩
    | refine ⟨hmk (by assumption), ?_⟩
    | refine ⟨of_decide_eq_true rfl, ?_⟩
    | refine ⟨fun _ => of_decide_eq_true rfl, ?_⟩
    | ((with_reducible refine ⟨?_, ?_⟩); (focus (intros; simp_all; done)))
    | ((with_reducible refine ⟨?_, ?_⟩); (focus (intros; omega)))) <;> (try (conv => whnf)))
  · have hn : (rcheckG g).2 ≠ 0 := by simpa using h
    rw [rorder_no hn]
    all_goals ((with_reducible refine leaf_i ?_); (conv => whnf))
    repeat' ((with_reducible refine And.intro ?_ ?_) <;> (try (conv => whnf)))
    all_goals (try (first | with_reducible rfl | exact True.intro | rfl | exact id | exact fun h => h | exact fun _ => rfl))
    all_goals (first | rfl | trace_state)
  · have hn : ¬ (rcheckG g).2 ≠ 0 := by simpa using h
    have h0 : (checkG g).2 = 0 := by rw [← check_same]; exact Decidable.not_not.1 hn
    have hpar := check_parts h0
    have hin := node_in hpar.2.1
    have hlen := hpar.1.1
    refine only [7, 0] ?_
    (conv => whnf)
    refine looped (σ := List (El tB) × List (El tI)) (fun x => [(6, .ow 1 1 x.2.length)]) (fun x => [.row true tB 4 x.1, .row true tI 3 x.2]) (fun x => x.1.length = g.length ∧ x.2.length ≤ g.length ∧ rordN g (g.length - x.2.length) x.1 x.2 = rordN g g.length (falseR g.length) []) (fun x => g.length - x.2.length) (falseR g.length, []) ⟨by simp [falseR], Nat.zero_le _, rfl⟩ ?_ ?_
    · conv => whnf
      refine ⟨rfl, leaf_i ?_⟩
      repeat' ((with_reducible refine And.intro ?_ ?_) <;> (try (conv => whnf)))
      all_goals (try (first | with_reducible rfl | exact True.intro | rfl | exact id | exact fun h => h | exact fun _ => rfl))
    · rintro ⟨th, out⟩ ⟨hl, ho, hr⟩
      dsimp only at hl ho hr ⊢
      conv => whnf
      repeat' ((first
        | with_reducible refine ⟨fun h => h, ?_⟩
        | with_reducible refine ⟨pk1, ?_⟩
        | with_reducible refine ⟨pk2, ?_⟩
        | with_reducible refine ⟨pk3, ?_⟩
        | with_reducible refine ⟨pk4, ?_⟩
        | with_reducible refine ⟨pk5, ?_⟩
        | with_reducible refine ⟨pk6, ?_⟩
        | with_reducible refine ⟨trivial, ?_⟩
        | with_reducible refine ⟨fun _ => trivial, ?_⟩
        | with_reducible refine ⟨rfl, ?_⟩
        | with_reducible refine every_i (fun hd => ?_)
        | with_reducible refine everyN_i (fun k hk => ?_)
        | with_reducible refine everyD_i (fun d hd => ?_)
        | with_reducible refine fork_t (by assumption) ?_
        | with_reducible refine fork_f (by assumption) ?_
        | refine fork_t rfl ?_
        | refine fork_f rfl ?_
        | with_reducible refine fork_i (fun h => ?_) (fun h => ?_)
        | with_reducible refine both_i ?_ ?_
        | ((with_reducible refine alike_i ?_); exact ⟨rfl, rfl, rfl⟩)
        | ((with_reducible refine fin_i ?_); (conv => whnf); refine ⟨rfl, ?_⟩)
        | refine ⟨of_decide_eq_true rfl, ?_⟩
        | refine ⟨fun _ => of_decide_eq_true rfl, ?_⟩
        | ((with_reducible refine ⟨?_, ?_⟩); (focus (intros; simp_all; done)))
        | ((with_reducible refine ⟨?_, ?_⟩); (focus (intros; omega)))) <;> (try (conv => whnf)))
      · have ho' : out.length < g.length := lt_t h
        rw [show g.length - out.length = (g.length - out.length - 1) + 1 by omega, rordN_s] at hr
        refine only [7, 6, 0] ?_
        (conv => whnf)
        refine looped (σ := Nat × Int) (fun x => [(9, I x.1), (8, I x.2)]) (fun x => [.row true tB 4 th, .row true tI 3 out]) (fun x => x.1 ≤ g.length ∧ ((x.2 = -1 ∧ nextR th x.1 (g.drop x.1) = nextR th 0 g) ∨ ∃ n : Nat, x.2 = n ∧ n < g.length ∧ nextR th 0 g = some n)) (fun x => g.length - x.1) (0, -1) ⟨Nat.zero_le _, .inl ⟨rfl, rfl⟩⟩ ?_ ?_
        · conv => whnf
          refine ⟨rfl, leaf_i ?_⟩
          repeat' ((with_reducible refine And.intro ?_ ?_) <;> (try (conv => whnf)))
          all_goals (try (first | with_reducible rfl | exact True.intro | rfl | exact id | exact fun h => h | exact fun _ => rfl))
        · rintro ⟨i, nx⟩ ⟨hi, hn2⟩
          dsimp only at hi hn2 ⊢
          conv => whnf
          repeat' ((first
            | with_reducible refine ⟨fun h => h, ?_⟩
            | with_reducible refine ⟨pk1, ?_⟩
            | with_reducible refine ⟨pk2, ?_⟩
            | with_reducible refine ⟨pk3, ?_⟩
            | with_reducible refine ⟨pk4, ?_⟩
            | with_reducible refine ⟨pk5, ?_⟩
            | with_reducible refine ⟨pk6, ?_⟩
            | with_reducible refine ⟨trivial, ?_⟩
            | with_reducible refine ⟨fun _ => trivial, ?_⟩
            | with_reducible refine ⟨rfl, ?_⟩
            | with_reducible refine every_i (fun hd => ?_)
            | with_reducible refine everyN_i (fun k hk => ?_)
            | with_reducible refine everyD_i (fun d hd => ?_)
            | with_reducible refine fork_t (by assumption) ?_
            | with_reducible refine fork_f (by assumption) ?_
            | refine fork_t rfl ?_
            | refine fork_f rfl ?_
            | with_reducible refine fork_i (fun h => ?_) (fun h => ?_)
            | with_reducible refine both_i ?_ ?_
            | ((with_reducible refine alike_i ?_); exact ⟨rfl, rfl, rfl⟩)
            | ((with_reducible refine fin_i ?_); (conv => whnf); refine ⟨rfl, ?_⟩)
            | refine ⟨of_decide_eq_true rfl, ?_⟩
            | refine ⟨fun _ => of_decide_eq_true rfl, ?_⟩
            | ((with_reducible refine ⟨?_, ?_⟩); (focus (intros; simp_all; done)))
            | ((with_reducible refine ⟨?_, ?_⟩); (focus (intros; omega)))) <;> (try (conv => whnf)))
          · have hii : i < g.length ∧ nx < 0 := by
              have h' : (bif decide ((i : Int) < (g.length : Int)) then decide (nx < 0) else false) = true := h
              cases h1 : decide ((i : Int) < (g.length : Int)) with
              | false => rw [h1] at h'; cases h'
              | true => rw [h1] at h'; exact ⟨lt_t h1, of_decide_eq_true h'⟩
            obtain ⟨hi', hx⟩ := hii
            have hn3 : nx = -1 ∧ nextR th i (g.drop i) = nextR th 0 g := by
              rcases hn2 with h2 | ⟨n, e, _, _⟩
              · exact h2
              · omega
            obtain ⟨e1, hn3⟩ := hn3
            subst e1
            rw [drop_get g hi', nextR_c] at hn3
            have hti : 0 ≤ (i : Int) ∧ (i : Int) < (th.length : Int) := by omega
            have hgi : 0 ≤ (i : Int) ∧ (i : Int) < (g.length : Int) := by omega
            have hins := hp.2 _ (getE_mem g hi')
            conv => whnf
            repeat' ((first
              | with_reducible refine ⟨fun h => h, ?_⟩
              | with_reducible refine ⟨pk1, ?_⟩
              | with_reducible refine ⟨pk2, ?_⟩
              | with_reducible refine ⟨pk3, ?_⟩
              | with_reducible refine ⟨pk4, ?_⟩
              | with_reducible refine ⟨pk5, ?_⟩
              | with_reducible refine ⟨pk6, ?_⟩
              | with_reducible refine ⟨trivial, ?_⟩
              | with_reducible refine ⟨fun _ => trivial, ?_⟩
              | with_reducible refine ⟨rfl, ?_⟩
              | with_reducible refine every_i (fun hd => ?_)
              | with_reducible refine everyN_i (fun k hk => ?_)
              | with_reducible refine everyD_i (fun d hd => ?_)
              | with_reducible refine fork_t (by assumption) ?_
              | with_reducible refine fork_f (by assumption) ?_
              | refine fork_t rfl ?_
              | refine fork_f rfl ?_
              | with_reducible refine fork_i (fun h => ?_) (fun h => ?_)
              | with_reducible refine both_i ?_ ?_
              | ((with_reducible refine alike_i ?_); exact ⟨rfl, rfl, rfl⟩)
              | ((with_reducible refine fin_i ?_); (conv => whnf); refine ⟨rfl, ?_⟩)
              | refine ⟨hti, ?_⟩
              | refine ⟨hgi, ?_⟩
              | refine ⟨of_decide_eq_true rfl, ?_⟩
              | refine ⟨fun _ => of_decide_eq_true rfl, ?_⟩
              | ((with_reducible refine ⟨?_, ?_⟩); (focus (intros; simp_all; done)))
              | ((with_reducible refine ⟨?_, ?_⟩); (focus (intros; omega)))) <;> (try (conv => whnf)))
            refine only [10, 9, 8, 7, 6, 0] ?_
            (conv => whnf)
            refine looped (σ := Nat × Bool) (fun x => [(11, I x.1), (10, B x.2)]) (fun x => [.row true tB 4 th, .row true tI 3 out]) (fun x => x.1 ≤ (Nd.ins (getE tN g i)).length ∧ (x.2 && restB th (getE tN g i) x.1) = readyB th i (getE tN g i)) (fun x => (Nd.ins (getE tN g i)).length - x.1) (0, !(getE tB th i).1) ⟨Nat.zero_le _, rest_0 th i (getE tN g i)⟩ ?_ ?_
            · conv => whnf
              refine ⟨rfl, leaf_i ?_⟩
              repeat' ((with_reducible refine And.intro ?_ ?_) <;> (try (conv => whnf)))
              all_goals (try (first | with_reducible rfl | exact True.intro | rfl | exact id | exact fun h => h | exact fun _ => rfl))
            · rintro ⟨k, may⟩ ⟨hk, hm⟩
              dsimp only at hk hm ⊢
              have hki : decide ((k : Int) < ((Nd.ins (getE tN g i)).length : Int)) = true → 0 ≤ (k : Int) ∧ (k : Int) < ((Nd.ins (getE tN g i)).length : Int) := fun h => by have := lt_t h; omega
              have hkt : decide ((k : Int) < ((Nd.ins (getE tN g i)).length : Int)) = true → 0 ≤ (getE tI (Nd.ins (getE tN g i)) k).1 ∧ (getE tI (Nd.ins (getE tN g i)) k).1 < (g.length : Int) := fun h => hin i hi' k (lt_t h)
              conv => whnf
              repeat' ((first
                | with_reducible refine ⟨fun h => h, ?_⟩
                | with_reducible refine ⟨pk1, ?_⟩
                | with_reducible refine ⟨pk2, ?_⟩
                | with_reducible refine ⟨pk3, ?_⟩
                | with_reducible refine ⟨pk4, ?_⟩
                | with_reducible refine ⟨pk5, ?_⟩
                | with_reducible refine ⟨pk6, ?_⟩
                | with_reducible refine ⟨trivial, ?_⟩
                | with_reducible refine ⟨fun _ => trivial, ?_⟩
                | with_reducible refine ⟨rfl, ?_⟩
                | with_reducible refine every_i (fun hd => ?_)
                | with_reducible refine everyN_i (fun k hk => ?_)
                | with_reducible refine everyD_i (fun d hd => ?_)
                | with_reducible refine fork_t (by assumption) ?_
                | with_reducible refine fork_f (by assumption) ?_
                | refine fork_t rfl ?_
                | refine fork_f rfl ?_
                | with_reducible refine fork_i (fun h => ?_) (fun h => ?_)
                | with_reducible refine both_i ?_ ?_
                | ((with_reducible refine alike_i ?_); exact ⟨rfl, rfl, rfl⟩)
                | ((with_reducible refine fin_i ?_); (conv => whnf); refine ⟨rfl, ?_⟩)
                | refine ⟨hgi, ?_⟩
                | refine ⟨fun _ => hgi, ?_⟩
                | refine ⟨fun _ => hki (by assumption), ?_⟩
                | refine ⟨fun _ => hkt (by assumption), ?_⟩
                | refine ⟨of_decide_eq_true rfl, ?_⟩
                | refine ⟨fun _ => of_decide_eq_true rfl, ?_⟩
                | ((with_reducible refine ⟨?_, ?_⟩); (focus (intros; simp_all; done)))
                | ((with_reducible refine ⟨?_, ?_⟩); (focus (intros; omega)))) <;> (try (conv => whnf)))
              · have hk' : k < (Nd.ins (getE tN g i)).length := lt_t (by assumption)
                have hinv : k + 1 ≤ (Nd.ins (getE tN g i)).length ∧ ((bif may then (bif (Nd.kind (getE tN g i)) == 9 then true else (getE tB th (getE tI (Nd.ins (getE tN g i)) k).1.toNat).1) else false) && restB th (getE tN g i) (k + 1)) = readyB th i (getE tN g i) := ⟨hk', (rest_s hk' may).trans hm⟩
                refine next_i (k + 1, (bif may then (bif (Nd.kind (getE tN g i)) == 9 then true else (getE tB th (getE tI (Nd.ins (getE tN g i)) k).1.toNat).1) else false)) hinv ?_ rfl rfl ?_
                · show (Nd.ins (getE tN g i)).length - (k + 1) < (Nd.ins (getE tN g i)).length - k
                  omega
                · conv => whnf
                  refine ⟨rfl, leaf_i ?_⟩
                  repeat' ((with_reducible refine And.intro ?_ ?_) <;> (try (conv => whnf)))
                  all_goals (try (first | with_reducible rfl | exact True.intro | rfl | exact id | exact fun h => h | exact fun _ => rfl))
                  all_goals (try (first | rfl | exact wrapS (by omega)))
              · have hk' : (Nd.ins (getE tN g i)).length ≤ k := lt_f (by assumption)
                rw [rest_e hk', Bool.and_true] at hm
                have hm2 : may = true := by assumption
                rw [hm2] at hm
                rw [if_pos hm.symm] at hn3
                refine next_i (i + 1, (i : Int)) ⟨hi', .inr ⟨i, rfl, hi', hn3.symm⟩⟩ (by dsimp only; omega) rfl rfl ?_
                conv => whnf
                refine ⟨rfl, leaf_i ?_⟩
                repeat' ((with_reducible refine And.intro ?_ ?_) <;> (try (conv => whnf)))
                all_goals (try (first | with_reducible rfl | exact True.intro | rfl | exact id | exact fun h => h | exact fun _ => rfl))
                all_goals (try (first | rfl | exact wrapS (by omega)))
              · have hk' : (Nd.ins (getE tN g i)).length ≤ k := lt_f (by assumption)
                rw [rest_e hk', Bool.and_true] at hm
                have hm2 : may = false := by assumption
                rw [hm2] at hm
                rw [if_neg (by rw [← hm]; simp)] at hn3
                refine next_i (i + 1, -1) ⟨hi', .inl ⟨rfl, hn3⟩⟩ (by dsimp only; omega) rfl rfl ?_
                conv => whnf
                refine ⟨rfl, leaf_i ?_⟩
                repeat' ((with_reducible refine And.intro ?_ ?_) <;> (try (conv => whnf)))
                all_goals (try (first | with_reducible rfl | exact True.intro | rfl | exact id | exact fun h => h | exact fun _ => rfl))
                all_goals (try (first | rfl | exact wrapS (by omega)))
          · have hcase := next_case hn2 (by assumption)
            have hx : nx < 0 := of_decide_eq_true (by assumption)
            have hno : nextR th 0 g = none := by
              rcases hcase with ⟨_, h2⟩ | ⟨n, h1, _, _⟩
              · exact h2
              · omega
            rw [hno] at hr
            rw [rorder_cyc hn hr.symm]
            all_goals ((with_reducible refine leaf_i ?_); (conv => whnf))
            repeat' ((with_reducible refine And.intro ?_ ?_) <;> (try (conv => whnf)))
            all_goals (try (first | with_reducible rfl | exact True.intro | rfl | exact id | exact fun h => h | exact fun _ => rfl))
            all_goals (first | rfl | trace_state)
          · have hcase := next_case hn2 (by assumption)
            have hx : ¬ nx < 0 := of_decide_eq_false (by assumption)
            obtain ⟨n, e, hng, hsome⟩ : ∃ n : Nat, nx = n ∧ n < g.length ∧ nextR th 0 g = some n := by
              rcases hcase with ⟨h1, _⟩ | h2
              · omega
              · exact h2
            subst e
            rw [hsome] at hr
            have hb1 : 0 ≤ (n : Int) ∧ (n : Int) < (g.length : Int) := by omega
            have hb2 : (out ++ [((n : Int), ())]).length ≤ 1000000000 := by simp only [List.length_append, List.length_cons, List.length_nil]; omega
            conv => whnf
            repeat' ((first
              | with_reducible refine ⟨fun h => h, ?_⟩
              | with_reducible refine ⟨pk1, ?_⟩
              | with_reducible refine ⟨pk2, ?_⟩
              | with_reducible refine ⟨pk3, ?_⟩
              | with_reducible refine ⟨pk4, ?_⟩
              | with_reducible refine ⟨pk5, ?_⟩
              | with_reducible refine ⟨pk6, ?_⟩
              | with_reducible refine ⟨trivial, ?_⟩
              | with_reducible refine ⟨fun _ => trivial, ?_⟩
              | with_reducible refine ⟨rfl, ?_⟩
              | with_reducible refine every_i (fun hd => ?_)
              | with_reducible refine everyN_i (fun k hk => ?_)
              | with_reducible refine everyD_i (fun d hd => ?_)
              | with_reducible refine fork_t (by assumption) ?_
              | with_reducible refine fork_f (by assumption) ?_
              | refine fork_t rfl ?_
              | refine fork_f rfl ?_
              | with_reducible refine fork_i (fun h => ?_) (fun h => ?_)
              | with_reducible refine both_i ?_ ?_
              | ((with_reducible refine alike_i ?_); exact ⟨rfl, rfl, rfl⟩)
              | ((with_reducible refine fin_i ?_); (conv => whnf); refine ⟨rfl, ?_⟩)
              | refine ⟨hb1, ?_⟩
              | refine ⟨hb2, ?_⟩
              | refine ⟨of_decide_eq_true rfl, ?_⟩
              | refine ⟨fun _ => of_decide_eq_true rfl, ?_⟩
              | ((with_reducible refine ⟨?_, ?_⟩); (focus (intros; simp_all; done)))
              | ((with_reducible refine ⟨?_, ?_⟩); (focus (intros; omega)))) <;> (try (conv => whnf)))
            refine next_i (th.set n (true, ()), out ++ [((n : Int), ())]) ⟨by simpa using hl, by simp only [List.length_append, List.length_cons, List.length_nil]; omega, ?_⟩ ?_ rfl rfl ?_
            · dsimp only
              rw [← hr]
              congr 1
              simp only [List.length_append, List.length_cons, List.length_nil]
              omega
            · simp only [List.length_append, List.length_cons, List.length_nil]; omega
            · conv => whnf
              refine ⟨rfl, leaf_i ?_⟩
              repeat' ((with_reducible refine And.intro ?_ ?_) <;> (try (conv => whnf)))
              all_goals (try (first | with_reducible rfl | exact True.intro | rfl | exact id | exact fun h => h | exact fun _ => rfl))
              all_goals (try (first | rfl | trace_state))
      · have ho' : g.length ≤ out.length := lt_f h
        rw [show g.length - out.length = 0 by omega, rordN_0] at hr
        rw [rorder_ok hn hr.symm]
        all_goals ((with_reducible refine leaf_i ?_); (conv => whnf))
        repeat' ((with_reducible refine And.intro ?_ ?_) <;> (try (conv => whnf)))
        all_goals (try (first | with_reducible rfl | exact True.intro | rfl | exact id | exact fun h => h | exact fun _ => rfl))
        all_goals (first | rfl | trace_state)
end Go.Proofs.Ytbgcgokikekmoaa

/- Layer 10 in plain Lean: what an order has; a graph with a node more. -/
namespace Go.Proofs.Ytbgcgokikekmoaa
open Go Go.Proofs.Ytbgcgokikekmoaa.Eng
def thF (n : Nat) (l : List (El tI)) : List (El tB) := l.foldl (fun th x => th.set x.1.toNat (true, ())) (falseR n)
theorem thF_snoc (n : Nat) (l : List (El tI)) (x : El tI) : thF n (l ++ [x]) = (thF n l).set x.1.toNat (true, ()) := by
  unfold thF; rw [List.foldl_append]; rfl
theorem thF_len (n : Nat) (l : List (El tI)) : (thF n l).length = n := by
  unfold thF
  suffices ∀ (l : List (El tI)) (th : List (El tB)), th.length = n → (l.foldl (fun th x => th.set x.1.toNat (true, ())) th).length = n from this l _ (by simp [falseR])
  intro l
  induction l with
  | nil => intro th h; exact h
  | cons x r ih => intro th h; exact ih _ (by rw [List.length_set]; exact h)
theorem ordN_spec {g : List Nd} : ∀ (f : Nat) (th : List (El tB)) (out : List (El tI)), th = thF g.length out → ∃ e, ordN g f th out = out ++ e ∧
    ∀ i, i < e.length → ∃ n : Nat, (getE tI e i).1 = n ∧ n < g.length ∧ readyB (thF g.length (out ++ e.take i)) n (getE tN g n) = true
  | 0, th, out, _ => ⟨[], by unfold ordN; simp, fun i hi => absurd hi (Nat.not_lt_zero _)⟩
  | f + 1, th, out, ht => by
    rw [ordN_s]
    cases hn : nextR th 0 g with
    | none => exact ⟨[], by simp, fun i hi => absurd hi (Nat.not_lt_zero _)⟩
    | some i =>
      obtain ⟨_, h2, h3, _⟩ := nextR_some g 0 hn
      obtain ⟨e, h4, h5⟩ := ordN_spec f (th.set i (true, ())) (out ++ [((i : Int), ())]) (by rw [thF_snoc, ht]; rfl)
      refine ⟨((i : Int), ()) :: e, ?_, fun j hj => ?_⟩
      · simp only
        rw [h4]; simp
      · cases j with
        | zero =>
          refine ⟨i, rfl, by omega, ?_⟩
          rw [List.take_zero, List.append_nil, ← ht]
          exact h3
        | succ j =>
          obtain ⟨n, h6, h7, h8⟩ := h5 j (by simpa using hj)
          refine ⟨n, h6, h7, ?_⟩
          rw [List.take_succ_cons]
          rw [List.append_assoc] at h8
          exact h8
theorem rordN_len {g : List Nd} : ∀ (f : Nat) (th : List (El tB)) (out : List (El tI)) {l : List (El tI)}, rordN g f th out = some l → l.length = out.length + f
  | 0, th, out, l, h => by unfold rordN at h; injection h with h; rw [← h]; rfl
  | f + 1, th, out, l, h => by
    rw [rordN_s] at h
    cases hn : nextR th 0 g with
    | none => rw [hn] at h; cases h
    | some i =>
      rw [hn] at h
      have := rordN_len f _ _ h
      rw [this]; simp only [List.length_append, List.length_cons, List.length_nil]; omega
def OrdOk (g : List Nd) (l : List (El tI)) : Prop := l.length = g.length ∧ ∀ i, i < g.length → ∃ n : Nat, (getE tI l i).1 = n ∧ n < g.length ∧ readyB (thF g.length (l.take i)) n (getE tN g n) = true
theorem order_ok {g : List Nd} (h : (checkG g).2 = 0) : OrdOk g (orderG g) := by
  obtain ⟨hf, hn, hs⟩ := check_parts h
  have ha := ord_all (node_in hn) (check_dep h) hs g.length (falseR g.length) [] (by simp [falseR]) (cntF_rep _)
  have hl := rordN_len _ _ _ ha
  rw [← orderG_eq] at hl
  simp only [List.length_nil, Nat.zero_add] at hl
  refine ⟨hl, fun i hi => ?_⟩
  obtain ⟨e, h4, h5⟩ := ordN_spec (g := g) (g.length + 1) (falseR g.length) [] rfl
  rw [← orderG_eq, List.nil_append] at h4
  rw [← h4] at h5
  have := h5 i (by omega)
  rwa [List.nil_append] at this
theorem putG_iff {g : List Nd} : (putG g).2 = 0 ↔ (1 ≤ g.length ∧ g.length ≤ 32) ∧ g.all mayN = true := by
  unfold putG
  by_cases h : g.length < 1 ∨ 32 < g.length
  · rw [if_pos h]
    constructor
    · intro h'; cases h'
    · rintro ⟨h', _⟩; omega
  · rw [if_neg h, putF_all]
    by_cases ha : g.all mayN = true
    · rw [if_pos ha]; exact ⟨fun _ => ⟨by omega, ha⟩, fun _ => rfl⟩
    · rw [if_neg ha]
      constructor
      · intro h'; cases h'
      · rintro ⟨_, h'⟩; exact absurd h' ha
theorem badL_none {g : List Nd} : ∀ (f i : Nat), i + f = g.length → (∀ j : Nat, j < g.length → nodeE g (j : Int) = 0) → badL g i (g.drop i) = none
  | 0, i, h, _ => by rw [List.drop_eq_nil_of_le (by omega), badL_n]
  | f + 1, i, h, hn => by
    rw [drop_get g (by omega), badL_s, if_neg (by rw [hn i (by omega)]; simp)]
    exact badL_none f (i + 1) (by omega) hn
theorem check_of {g : List Nd} (hp : (putG g).2 = 0) (hn : ∀ j : Nat, j < g.length → nodeE g (j : Int) = 0) (hs : ¬ stuckG g < g.length) : checkG g = ((g.length : Int), 0) :=
  check_ok (by rw [hp]; simp) (by have := badL_none g.length 0 (by omega) hn; rwa [List.drop_zero] at this) hs
theorem fe_iff {g : List Nd} {i j : Nat} : Fe g i j ↔ j < g.length ∧ ∃ x ∈ (nd g (j : Int)).ins, x.1 = (i : Int) := by
  constructor
  · intro h
    refine ⟨fe_lt h, ?_⟩
    obtain ⟨p, hp, e⟩ := h
    have h1 : ∀ (n i : Int) (l : List (El tI)) (a : Int), ∀ p ∈ toIn n i a l, p.1 = n ∧ ∃ x ∈ l, x.1 = i := by
      intro n i l
      induction l with
      | nil => intro a p hp; simp [toIn] at hp
      | cons y r ih =>
        intro a p hp
        unfold toIn at hp
        split at hp
        · rename_i hy
          rcases List.mem_cons.1 hp with h | h
          · exact ⟨by rw [h], y, by simp, hy⟩
          · obtain ⟨q1, x, q2, q3⟩ := ih _ p h
            exact ⟨q1, x, List.mem_cons_of_mem _ q2, q3⟩
        · obtain ⟨q1, x, q2, q3⟩ := ih _ p hp
          exact ⟨q1, x, List.mem_cons_of_mem _ q2, q3⟩
    have h2 : ∀ (i : Int) (l : List Nd) (n : Int), ∀ p ∈ toOut i n l, ∃ j : Nat, p.1 = n + j ∧ ∃ x ∈ (Nd.ins (getE tN l j)), x.1 = i := by
      intro i l
      induction l with
      | nil => intro n p hp; simp [toOut] at hp
      | cons y r ih =>
        intro n p hp
        unfold toOut at hp
        rcases List.mem_append.1 hp with h | h
        · obtain ⟨q1, q2⟩ := h1 n i y.ins 0 p h
          exact ⟨0, by rw [q1]; simp, q2⟩
        · obtain ⟨j, q1, q2⟩ := ih _ p h
          exact ⟨j + 1, by rw [q1]; push_cast; omega, q2⟩
    obtain ⟨k, q1, q2⟩ := h2 (i : Int) g 0 p hp
    rw [e] at q1
    have : j = k := by omega
    subst this
    exact q2
  · rintro ⟨hj, x, hx, e⟩
    obtain ⟨k, hk, e2⟩ := mem_getE hx
    exact fe_in hj hk (by rw [show (Nd.ins (getE tN g j)) = (nd g (j : Int)).ins from rfl, e2]; exact e)
theorem get_app {g : List Nd} {x : Nd} {j : Nat} (h : j < g.length) : nd (g ++ [x]) (j : Int) = nd g (j : Int) := by
  unfold nd getE
  simp [List.getD_eq_getElem?_getD, List.getElem?_append_left h]
theorem get_last {g : List Nd} {x : Nd} : nd (g ++ [x]) (g.length : Int) = x := by
  unfold nd getE
  simp [List.getD_eq_getElem?_getD]
theorem hasP_false {p : Int → Bool} {l : List (El tI)} : hasP p l = false ↔ ∀ x ∈ l, p x.1 = false := by
  rw [hasP_any, List.any_eq_false]
  exact ⟨fun h x hx => by simpa using h x hx, fun h x hx => by simp [h x hx]⟩
theorem node_iff {g : List Nd} {i : Nat} (hi : i < g.length) : nodeE g (i : Int) = 0 ↔ numB (nd g (i : Int)) = true ∧ portsB g (nd g (i : Int)) = true ∧ depthB g (nd g (i : Int)) = true := by
  constructor
  · exact nodeE_0 hi
  · rintro ⟨h1, h2, h3⟩
    unfold nodeE
    rw [if_neg (by omega), h1, h2, h3]
    simp
theorem ports_iff {g : List Nd} {n : Nd} : portsB g n = true ↔ (n.ins.length : Int) = arK n.kind ∧ ∀ x ∈ n.ins, wrongB g x.1 = false := by
  unfold portsB
  cases h : ((n.ins.length : Int) == arK n.kind) with
  | true =>
    have := eq_of_beq h
    simp only [cond_true, Bool.not_eq_true', hasP_false, this, true_and]
  | false =>
    have := ne_of_beq_false h
    simp [this]
theorem wrong_iff {g : List Nd} {i : Int} : wrongB g i = false ↔ (0 ≤ i ∧ i < (g.length : Int)) ∧ (nd g i).kind ≠ 10 := by
  unfold wrongB
  by_cases h1 : i < 0
  · rw [decide_eq_true h1]; simp; omega
  · by_cases h2 : i ≥ (g.length : Int)
    · rw [decide_eq_true h2]; simp; omega
    · rw [decide_eq_false h1, decide_eq_false h2]
      simp only [cond_false, beq_eq_false_iff_ne]
      exact ⟨fun h => ⟨by omega, h⟩, fun h => h.2⟩
theorem nd_int {g : List Nd} {x : Nd} {i : Int} (h : 0 ≤ i ∧ i < (g.length : Int)) : nd (g ++ [x]) i = nd g i := by
  obtain ⟨k, rfl⟩ : ∃ k : Nat, i = k := ⟨i.toNat, by omega⟩
  exact get_app (by omega)
theorem other_iff {g : List Nd} {fed i : Int} : otherB g fed i = false ↔ (nd g i).dep = fed := by unfold otherB; simp
theorem depth_more {g : List Nd} {x n : Nd} (hin : ∀ y ∈ n.ins, 0 ≤ y.1 ∧ y.1 < (g.length : Int)) (h : depthB g n = true) : depthB (g ++ [x]) n = true := by
  unfold depthB at h ⊢
  split at h
  · cases h
  · split at h
    · cases h
    · rename_i h1 h2
      cases h3 : (bif decide (n.dep ≥ 0) then decide (n.dep ≤ 3) else false) with
      | false => rw [h3] at h; cases h
      | true =>
        rw [h3] at h
        rw [if_neg h1, if_neg h2]
        simp only [cond_true, Bool.not_eq_true', hasP_false] at h ⊢
        intro y hy
        have := h y hy
        rw [other_iff] at this ⊢
        rw [nd_int (hin y hy)]; exact this
theorem node_more {g : List Nd} {x : Nd} {i : Nat} (hi : i < g.length) (h : nodeE g (i : Int) = 0) : nodeE (g ++ [x]) (i : Int) = 0 := by
  obtain ⟨h1, h2, h3⟩ := (node_iff hi).1 h
  rw [node_iff (by simp; omega), get_app hi]
  have hp := ports_iff.1 h2
  have hin : ∀ y ∈ (nd g (i : Int)).ins, 0 ≤ y.1 ∧ y.1 < (g.length : Int) := fun y hy => (wrong_iff.1 (hp.2 y hy)).1
  refine ⟨h1, ports_iff.2 ⟨hp.1, fun y hy => ?_⟩, depth_more hin h3⟩
  have := wrong_iff.1 (hp.2 y hy)
  refine wrong_iff.2 ⟨by simp; omega, ?_⟩
  rw [nd_int this.1]; exact this.2
def newN (k d fr : Int) : Nd := (k, 0, 0, d, [(fr, ())], ())
theorem way_more {g : List Nd} {k fr : Int} {d least : Int} (hn : ∀ j : Nat, j < g.length → nodeE g (j : Int) = 0) (hfr : 0 ≤ fr ∧ fr < (g.length : Int)) {i j : Nat} (hj : j ≠ g.length) (h : Way (Ed (g ++ [newN k d fr]) least) i j) : Way (Ed g least) i j := by
  have hout : ∀ a b, Fe (g ++ [newN k d fr]) a b → a < g.length := fun a b hf => by
    obtain ⟨hb, x, hx, e⟩ := fe_iff.1 hf
    by_cases eb : b = g.length
    · subst eb
      rw [get_last] at hx
      have := List.mem_singleton.1 hx
      rw [this] at e
      have e : fr = (a : Int) := e
      omega
    · have hb' : b < g.length := by simp at hb; omega
      rw [get_app hb'] at hx
      obtain ⟨_, h2, _⟩ := (node_iff hb').1 (hn b hb')
      have := (wrong_iff.1 ((ports_iff.1 h2).2 x hx)).1
      rw [e] at this
      omega
  have hed : ∀ a b, b ≠ g.length → Ed (g ++ [newN k d fr]) least a b → Ed g least a b := fun a b hb he => by
    have ha := hout a b he.1
    have hb' : b < g.length := by have := fe_lt he.1; simp at this; omega
    obtain ⟨hf, s1, s2⟩ := he
    rw [get_app ha] at s1
    rw [get_app hb'] at s2
    refine ⟨?_, s1, s2⟩
    obtain ⟨_, x, hx, e⟩ := fe_iff.1 hf
    rw [get_app hb'] at hx
    exact fe_iff.2 ⟨hb', x, hx, e⟩
  induction h with
  | one r => exact .one (hed _ _ hj r)
  | more hw r ih => exact .more (ih (by have := hout _ _ r.1; omega)) (hed _ _ hj r)
theorem stuck_more {g : List Nd} {k fr : Int} {d : Int} (hn : ∀ j : Nat, j < g.length → nodeE g (j : Int) = 0) (hfr : 0 ≤ fr ∧ fr < (g.length : Int)) (hs : ¬ stuckG g < g.length) : ¬ stuckG (g ++ [newN k d fr]) < (g ++ [newN k d fr]).length := by
  intro hl
  obtain ⟨_, q2, _⟩ := stuckG_spec (g ++ [newN k d fr])
  obtain ⟨l, hl4, hb⟩ := q2 hl
  generalize stuckG (g ++ [newN k d fr]) = i at hl hb
  obtain ⟨n, hnl, hd, h1, h2⟩ := (backI_iff hl).1 hb
  have hlt : ∀ a b, Way (Ed (g ++ [newN k d fr]) (l : Int)) a b → a < g.length := fun a b hw => by
    obtain ⟨c, he⟩ := hw.first
    have hf := he.1
    obtain ⟨hb, x, hx, e⟩ := fe_iff.1 hf
    by_cases eb : c = g.length
    · subst eb
      rw [get_last] at hx
      have := List.mem_singleton.1 hx
      rw [this] at e
      have e : fr = (a : Int) := e
      omega
    · have hb' : c < g.length := by simp at hb; omega
      rw [get_app hb'] at hx
      obtain ⟨_, h2, _⟩ := (node_iff hb').1 (hn c hb')
      have := (wrong_iff.1 ((ports_iff.1 h2).2 x hx)).1
      rw [e] at this
      omega
  have hi := hlt _ _ h1
  have hn' := hlt _ _ h2
  rw [get_app hn'] at hd
  have hbk : backI g l i = true := (backI_iff hi).2 ⟨n, hn', hd, way_more hn hfr (by omega) h1, way_more hn hfr (by omega) h2⟩
  obtain ⟨p1, _, p3⟩ := stuckG_spec g
  have := p1 i (by omega) l hl4
  rw [hbk] at this; cases this
theorem check_more {g : List Nd} {k d fr : Int} (h : (checkG g).2 = 0) (hl : g.length ≤ 30) (hfr : 0 ≤ fr ∧ fr < (g.length : Int)) (hnk : (nd g fr).kind ≠ 10)
    (hk : k = 2 ∨ k = 3 ∨ k = 5 ∨ k = 8 ∨ k = 10) (hd : d = if k = 8 then (nd g fr).dep - 1 else (nd g fr).dep) (hr : (k = 8 → 0 ≤ d) ∧ (k = 10 → d = 0)) : checkG (g ++ [newN k d fr]) = ((g.length : Int) + 1, 0) := by
  obtain ⟨hf, hn, hs⟩ := check_parts h
  have hdp : 0 ≤ (nd g fr).dep ∧ (nd g fr).dep ≤ 3 := by
    obtain ⟨j, rfl⟩ : ∃ j : Nat, fr = j := ⟨fr.toNat, by omega⟩
    exact check_dep h _ (getE_mem g (by omega))
  have hd0 : 0 ≤ d ∧ d ≤ 3 := by
    rw [hd]
    split
    · rename_i e
      have := hr.1 e
      rw [hd, if_pos e] at this
      omega
    · exact hdp
  have hput : (putG g).2 = 0 := by
    by_cases h0 : (putG g).2 ≠ 0
    · rw [check_put h0] at h; exact absurd h h0
    · exact Decidable.not_not.1 h0
  obtain ⟨hp1, hp2⟩ := putG_iff.1 hput
  have e := check_of (g := g ++ [newN k d fr]) ?_ ?_ (stuck_more hn hfr hs)
  · rw [e]; simp
  · rw [putG_iff, List.all_append, hp2]
    refine ⟨by simp; omega, ?_⟩
    have e1 : mayN (newN k d fr) = true := by
      unfold mayN
      rw [hasW_eq, show Nd.dep (newN k d fr) = d from rfl, show Nd.ins (newN k d fr) = [(fr, ())] from rfl, decide_eq_true hd0.1, decide_eq_true hd0.2]
      have h1 : decide (fr < 0) = false := decide_eq_false (by omega)
      have h2 : decide (32 ≤ fr) = false := decide_eq_false (by omega)
      simp [wrongI, h1, h2]
    rw [List.all_cons, e1]; rfl
  · intro j hj
    by_cases ej : j < g.length
    · exact node_more ej (hn j ej)
    · have ej : j = g.length := by simp at hj; omega
      subst ej
      rw [node_iff (by simp), get_last]
      refine ⟨?_, ports_iff.2 ⟨?_, fun y hy => ?_⟩, ?_⟩
      · rcases hk with rfl | rfl | rfl | rfl | rfl <;> rfl
      · rcases hk with rfl | rfl | rfl | rfl | rfl <;> rfl
      · have := List.mem_singleton.1 hy
        rw [this]
        refine wrong_iff.2 ⟨by simp; omega, ?_⟩
        show (nd (g ++ [newN k d fr]) fr).kind ≠ 10
        rw [nd_int hfr]; exact hnk
      · have hfed : fedK k d = (nd g fr).dep := by
          rcases hk with rfl | rfl | rfl | rfl | rfl <;> (unfold fedK; simp at hd ⊢)
          · exact hd
          · exact hd
          · exact hd
          · rw [wrapI (by omega) (by omega)]; omega
          · exact hd
        have hot : ∀ y ∈ (newN k d fr).ins, otherB (g ++ [newN k d fr]) (fedK k d) y.1 = false := fun y hy => by
          have := List.mem_singleton.1 hy
          rw [this, other_iff, nd_int hfr, hfed]
        unfold depthB
        rw [if_neg (by
          rintro ⟨e, _⟩
          have e : k = 9 := e
          omega), if_neg (by
          rintro ⟨e, e2⟩
          have e : k = 1 ∨ k = 10 := e
          have e2 : d ≠ 0 := e2
          rcases e with e | e
          · omega
          · exact e2 (hr.2 e))]
        rw [show (newN k d fr).dep = d from rfl, show (newN k d fr).kind = k from rfl, decide_eq_true hd0.1, decide_eq_true hd0.2]
        simp only [cond_true, Bool.not_eq_true']
        exact hasP_false.2 hot
theorem check_wrong {g : List Nd} {k d fr : Int} (hn : (k = 8 ∧ d < 0) ∨ (k = 10 ∧ d ≠ 0)) : (checkG (g ++ [newN k d fr])).2 ≠ 0 := fun h => by
  obtain ⟨_, hj, _⟩ := check_parts h
  have hdp := check_dep h (newN k d fr) (by simp)
  have := hj g.length (by simp)
  rw [node_iff (by simp), get_last] at this
  have hd3 := this.2.2
  have hdp : 0 ≤ d ∧ d ≤ 3 := hdp
  rcases hn with ⟨rfl, hd⟩ | ⟨rfl, hd⟩
  · omega
  · unfold depthB at hd3
    rw [if_neg (by rintro ⟨e, _⟩; cases e), if_pos ⟨.inr rfl, hd⟩] at hd3
    cases hd3
theorem th_app {th : List (El tB)} {i : Nat} (h : i < th.length) : getE tB (th ++ [(false, ())]) i = getE tB th i := by
  unfold getE
  simp [List.getD_eq_getElem?_getD, List.getElem?_append_left h]
theorem ready_app {g : List Nd} (hin : ∀ j, j < g.length → ∀ k, k < (nd g (j : Int)).ins.length → 0 ≤ (getE tI (nd g (j : Int)).ins k).1 ∧ (getE tI (nd g (j : Int)).ins k).1 < (g.length : Int)) {th : List (El tB)} (hl : th.length = g.length) {i : Nat} (hi : i < g.length) :
    readyB (th ++ [(false, ())]) i (getE tN g i) = readyB th i (getE tN g i) := by
  rw [Bool.eq_iff_iff, ready_iff, ready_iff, th_app (by omega)]
  have hh : ∀ k, k < (Nd.ins (getE tN g i)).length → getE tB (th ++ [(false, ())]) (getE tI (Nd.ins (getE tN g i)) k).1.toNat = getE tB th (getE tI (Nd.ins (getE tN g i)) k).1.toNat := fun k hk => by
    have := hin i hi k hk
    have h2 : (getE tI (Nd.ins (getE tN g i)) k).1.toNat < th.length := by
      have e : (nd g (i : Int)).ins = Nd.ins (getE tN g i) := rfl
      rw [e] at this
      omega
    rw [th_app h2]
  constructor
  · rintro ⟨h1, h2⟩
    refine ⟨h1, h2.imp id fun h k hk => ?_⟩
    rw [← hh k hk]; exact h k hk
  · rintro ⟨h1, h2⟩
    refine ⟨h1, h2.imp id fun h k hk => ?_⟩
    rw [hh k hk]; exact h k hk
theorem nextR_app {g : List Nd} {x : Nd} (hin : ∀ j, j < g.length → ∀ k, k < (nd g (j : Int)).ins.length → 0 ≤ (getE tI (nd g (j : Int)).ins k).1 ∧ (getE tI (nd g (j : Int)).ins k).1 < (g.length : Int)) {th : List (El tB)} (hl : th.length = g.length) : ∀ (f a : Nat), a + f = g.length →
    nextR (th ++ [(false, ())]) a (g.drop a ++ [x]) = match nextR th a (g.drop a) with
      | some i => some i
      | none => if readyB (th ++ [(false, ())]) g.length x = true then some g.length else none
  | 0, a, h => by
    rw [List.drop_eq_nil_of_le (by omega)]
    have : a = g.length := by omega
    subst this
    rfl
  | f + 1, a, h => by
    rw [drop_get g (by omega : a < g.length), List.cons_append]
    show (if readyB (th ++ [(false, ())]) a (getE tN g a) = true then some a else nextR (th ++ [(false, ())]) (a + 1) (g.drop (a + 1) ++ [x])) = match (if readyB th a (getE tN g a) = true then some a else nextR th (a + 1) (g.drop (a + 1))) with
      | some i => some i
      | none => if readyB (th ++ [(false, ())]) g.length x = true then some g.length else none
    rw [ready_app hin hl (by omega)]
    by_cases hr : readyB th a (getE tN g a) = true
    · rw [if_pos hr, if_pos hr]
    · rw [if_neg hr, if_neg hr]
      exact nextR_app hin hl f (a + 1) (by omega)
theorem cntF_app (th : List (El tB)) : cntF (th ++ [(false, ())]) = cntF th + 1 := by simp [cntF]
theorem cntF_0 {th : List (El tB)} (h : cntF th = 0) {i : Nat} (hi : i < th.length) : (getE tB th i).1 = true := by
  unfold cntF at h
  rw [List.countP_eq_zero] at h
  have := h _ (getE_mem th hi)
  simpa using this
theorem ord_more {g : List Nd} {k d fr : Int} (hin : ∀ j, j < g.length → ∀ k, k < (nd g (j : Int)).ins.length → 0 ≤ (getE tI (nd g (j : Int)).ins k).1 ∧ (getE tI (nd g (j : Int)).ins k).1 < (g.length : Int))
    (hd : ∀ x : Nd, x ∈ g → 0 ≤ Nd.dep x ∧ Nd.dep x ≤ 3) (hs : ¬ stuckG g < g.length) (hfr : 0 ≤ fr ∧ fr < (g.length : Int)) : ∀ (f : Nat) (th : List (El tB)) (out : List (El tI)), th.length = g.length → cntF th = f →
    ordN (g ++ [newN k d fr]) (f + 2) (th ++ [(false, ())]) out = ordN g (f + 1) th out ++ [((g.length : Int), ())]
  | 0, th, out, hl, hc => by
    rw [ordN_s, ordN_s]
    have e := nextR_app (x := newN k d fr) hin hl g.length 0 (by omega)
    rw [List.drop_zero] at e
    rw [nextR_zero hl hc] at e
    have hrx : readyB (th ++ [(false, ())]) g.length (newN k d fr) = true := by
      rw [ready_iff]
      refine ⟨?_, .inr fun j hj => ?_⟩
      · unfold getE; simp [List.getD_eq_getElem?_getD, ← hl]
      · have ej : j = 0 := by simp [newN, Nd.ins] at hj; omega
        subst ej
        show (getE tB (th ++ [(false, ())]) fr.toNat).1 = true
        rw [th_app (by omega)]
        exact cntF_0 hc (by omega)
    rw [hrx, if_pos rfl] at e
    simp only at e
    rw [e, nextR_zero hl hc]
    simp only
    rw [ordN_s, nextR_zero (by simp [hl])]
    have := cntF_set (th ++ [(false, ())]) g.length (by simp [hl]) (by unfold getE; simp [List.getD_eq_getElem?_getD, ← hl])
    rw [cntF_app] at this
    omega
  | f + 1, th, out, hl, hc => by
    obtain ⟨i, hi⟩ := next_there hin hd hs hl (by omega)
    obtain ⟨_, h2, h3, _⟩ := nextR_some g 0 hi
    have hc2 := cntF_set th i (by omega) (ready_f h3)
    have e := nextR_app (x := newN k d fr) hin hl g.length 0 (by omega)
    rw [List.drop_zero, hi] at e
    simp only at e
    rw [ordN_s, e, ordN_s g, hi]
    simp only
    rw [show (th ++ [(false, ())]).set i (true, ()) = th.set i (true, ()) ++ [(false, ())] by rw [List.set_append_left _ _ (by omega)]]
    exact ord_more hin hd hs hfr f _ _ (by rw [List.length_set]; exact hl) (by omega)
theorem order_more {g : List Nd} {k d fr : Int} (h : (checkG g).2 = 0) (hfr : 0 ≤ fr ∧ fr < (g.length : Int)) : orderG (g ++ [newN k d fr]) = orderG g ++ [((g.length : Int), ())] := by
  obtain ⟨hf, hn, hs⟩ := check_parts h
  have e := ord_more (k := k) (d := d) (node_in hn) (check_dep h) hs hfr g.length (falseR g.length) [] (by simp [falseR]) (cntF_rep _)
  rw [orderG_eq, orderG_eq, ← e, List.length_append, List.length_cons, List.length_nil]
  congr 1
  unfold falseR
  rw [List.replicate_succ']
end Go.Proofs.Ytbgcgokikekmoaa

/- Layer 10: the statement CheckOrder. -/
namespace Go.Proofs.Ytbgcgokikekmoaa
set_option maxRecDepth 100000
open Go Go.RowKit Go.Proofs.Ytbgcgokikekmoaa.Eng
def atO (l : List (El tI)) (i : Nat) : Int := (getE tI l i).1
theorem ord_rng {g : List Nd} {l : List (El tI)} (h : OrdOk g l) {i : Nat} (hi : i < g.length) : 0 ≤ (getE tI l i).1 ∧ (getE tI l i).1 < (g.length : Int) := by
  obtain ⟨n, e, hn, _⟩ := h.2 i hi
  rw [e]; omega
theorem ord_no {g : List Nd} {l : List (El tI)} (h : OrdOk g l) {i : Nat} (hi : i < g.length) : (bif (bif decide ((getE tI l i).1 < 0) then true else decide ((getE tI l i).1 ≥ (g.length : Int))) then true else (getE tB (thF g.length (l.take i)) (getE tI l i).1.toNat).1) = false := by
  obtain ⟨n, e, hn, hr⟩ := h.2 i hi
  rw [e, decide_eq_false (by omega), decide_eq_false (by omega)]
  exact ready_f hr
theorem ord_in {g : List Nd} {l : List (El tI)} (h : OrdOk g l) {i : Nat} (hi : i < g.length) {k : Nat} (hk : k < (Nd.ins (getE tN g (getE tI l i).1.toNat)).length) : (bif (Nd.kind (getE tN g (getE tI l i).1.toNat)) != 9 then !(getE tB (thF g.length (l.take i)) (getE tI (Nd.ins (getE tN g (getE tI l i).1.toNat)) k).1.toNat).1 else false) = false := by
  obtain ⟨n, e, hn, hr⟩ := h.2 i hi
  rw [e] at hk ⊢
  rw [show ((n : Nat) : Int).toNat = n from rfl] at hk ⊢
  obtain ⟨_, h2⟩ := ready_iff.1 hr
  rcases h2 with h2 | h2
  · rw [h2]; rfl
  · rw [h2 k hk]
    cases (Nd.kind (getE tN g n) != 9) <;> rfl
theorem ord_in2 {g : List Nd} {l : List (El tI)} (hin : ∀ j, j < g.length → ∀ k, k < (nd g (j : Int)).ins.length → 0 ≤ (getE tI (nd g (j : Int)).ins k).1 ∧ (getE tI (nd g (j : Int)).ins k).1 < (g.length : Int)) (h : OrdOk g l) {i : Nat} (hi : i < g.length) {k : Nat} (hk : k < (Nd.ins (getE tN g (getE tI l i).1.toNat)).length) : 0 ≤ (getE tI (Nd.ins (getE tN g (getE tI l i).1.toNat)) k).1 ∧ (getE tI (Nd.ins (getE tN g (getE tI l i).1.toNat)) k).1 < (g.length : Int) := by
  obtain ⟨n, e, hn, hr⟩ := h.2 i hi
  rw [e] at hk ⊢
  exact hin n hn k hk
theorem th_next {g : List Nd} {l : List (El tI)} {i : Nat} (hi : i < l.length) : thF g.length (l.take (i + 1)) = (thF g.length (l.take i)).set (getE tI l i).1.toNat (true, ()) := by
  rw [take_get l hi, thF_snoc]
theorem thF_0 (n : Nat) (l : List (El tI)) : List.replicate ((n : Nat) : Int).toNat ((false, ()) : El tB) = thF n (l.take 0) := by
  rw [List.take_zero]; rfl
theorem ordC_fst {g : List Nd} (h : (orderC g).2 = 0) : (checkG g).2 = 0 ∧ (orderC g).1 = orderG g := by
  by_cases h0 : (checkG g).2 ≠ 0
  · rw [orderC_no h0] at h; exact absurd h h0
  · rw [orderC_ok h0]; exact ⟨Decidable.not_not.1 h0, rfl⟩
theorem ordC_len {g : List Nd} : (orderC g).1.length ≤ g.length := by
  by_cases h0 : (checkG g).2 ≠ 0
  · rw [orderC_no h0]; exact Nat.zero_le _
  · rw [orderC_ok h0]
    have := (order_ok (Decidable.not_not.1 h0)).1
    show (orderG g).length ≤ _
    omega
theorem eqI_self (l : List (El tI)) : eqI l l = true := (eqI_iff l l).2 rfl
attribute [local irreducible] checkG rcheckG orderC rorderC orderG thF
def k_lorder : Sig := .arg (shR tN) fun g => .done { pre := True, res := B true }
set_option maxHeartbeats 8000000 in
theorem c_lorder : FnOk Try.prog 5 k_lorder.con := by
  refine fnOkS mixed tys_ok (cs := [(9, k_ins.con), (10, k_works.con), (17, k_Order.con), (18, k_rOrder.con), (19, k_sameI.con)]) ⟨c_ins, c_works, c_Order, c_rOrder, c_sameI, trivial⟩ Try.func5 rfl (by kernel_rfl) Try.ntmps5 _ (h := ?_)
  intro g
  refine ⟨rfl, fun _ => ?_⟩
  conv => whnf
  repeat' ((first
    | with_reducible refine ⟨fun h => h, ?_⟩
    | with_reducible refine ⟨pk1, ?_⟩
    | with_reducible refine ⟨pk2, ?_⟩
    | with_reducible refine ⟨pk3, ?_⟩
    | with_reducible refine ⟨pk4, ?_⟩
    | with_reducible refine ⟨pk5, ?_⟩
    | with_reducible refine ⟨pk6, ?_⟩
    | with_reducible refine ⟨trivial, ?_⟩
    | with_reducible refine ⟨fun _ => trivial, ?_⟩
    | with_reducible refine ⟨rfl, ?_⟩
    | with_reducible refine every_i (fun hd => ?_)
    | with_reducible refine everyN_i (fun k hk => ?_)
    | with_reducible refine everyD_i (fun d hd => ?_)
    | with_reducible refine fork_t (by assumption) ?_
    | with_reducible refine fork_f (by assumption) ?_
    | refine fork_t rfl ?_
    | refine fork_f rfl ?_
    | with_reducible refine fork_i (fun h => ?_) (fun h => ?_)
    | with_reducible refine both_i ?_ ?_
    | ((with_reducible refine alike_i ?_); exact ⟨rfl, rfl, rfl⟩)
    | ((with_reducible refine fin_i ?_); (conv => whnf); refine ⟨rfl, ?_⟩)
    | refine ⟨of_decide_eq_true rfl, ?_⟩
    | refine ⟨fun _ => of_decide_eq_true rfl, ?_⟩
    | ((with_reducible refine ⟨?_, ?_⟩); (focus (intros; simp_all; done)))
    | ((with_reducible refine ⟨?_, ?_⟩); (focus (intros; omega)))) <;> (try (conv => whnf)))
  · all_goals ((with_reducible refine leaf_i ?_); (conv => whnf))
    repeat' ((with_reducible refine And.intro ?_ ?_) <;> (try (conv => whnf)))
    all_goals (try (first | with_reducible rfl | exact True.intro | rfl | exact id | exact fun h => h | exact fun _ => rfl))
  · have hb : insG g 36 = true := by
      have h' : (!insG g 36) = false := h
      simpa using h'
    obtain ⟨hf, hl, hx⟩ := ins_fit hb (by decide)
    have hw := ins_wide hb (by decide)
    have hol := ordC_len (g := g)
    have hol2 : (orderC g).1.length < 4611686018427387904 := by omega
    have hmk : (0 : Int) ≤ (g.length : Int) ∧ (g.length : Int) ≤ (g.length : Int) ∧ (g.length : Int) ≤ 1000000000 := by omega
    have hfalse : (bif ((orderC g).2 != (rorderC g).2) then true else !eqI (orderC g).1 (rorderC g).1) = false := by
      rw [order_same, eqI_self]; simp
    conv => whnf
    repeat' ((first
      | with_reducible refine ⟨fun h => h, ?_⟩
      | with_reducible refine ⟨pk1, ?_⟩
      | with_reducible refine ⟨pk2, ?_⟩
      | with_reducible refine ⟨pk3, ?_⟩
      | with_reducible refine ⟨pk4, ?_⟩
      | with_reducible refine ⟨pk5, ?_⟩
      | with_reducible refine ⟨pk6, ?_⟩
      | with_reducible refine ⟨trivial, ?_⟩
      | with_reducible refine ⟨fun _ => trivial, ?_⟩
      | with_reducible refine ⟨rfl, ?_⟩
      | with_reducible refine every_i (fun hd => ?_)
      | with_reducible refine everyN_i (fun k hk => ?_)
      | with_reducible refine everyD_i (fun d hd => ?_)
      | with_reducible refine fork_t (by assumption) ?_
      | with_reducible refine fork_f (by assumption) ?_
      | refine fork_t rfl ?_
      | refine fork_f rfl ?_
      | with_reducible refine fork_i (fun h => ?_) (fun h => ?_)
      | with_reducible refine both_i ?_ ?_
      | ((with_reducible refine alike_i ?_); exact ⟨rfl, rfl, rfl⟩)
      | ((with_reducible refine fin_i ?_); (conv => whnf); refine ⟨rfl, ?_⟩)
      | refine ⟨hf, ?_⟩
      | refine ⟨fun _ => hf, ?_⟩
      | refine ⟨hw, ?_⟩
      | refine ⟨fun _ => hol2, ?_⟩
      | refine fork_f hfalse ?_
      | refine ⟨hmk, ?_⟩
      | refine ⟨of_decide_eq_true rfl, ?_⟩
      | refine ⟨fun _ => of_decide_eq_true rfl, ?_⟩
      | ((with_reducible refine ⟨?_, ?_⟩); (focus (intros; simp_all; done)))
      | ((with_reducible refine ⟨?_, ?_⟩); (focus (intros; omega)))) <;> (try (conv => whnf)))
    · all_goals ((with_reducible refine leaf_i ?_); (conv => whnf))
      repeat' ((with_reducible refine And.intro ?_ ?_) <;> (try (conv => whnf)))
      all_goals (try (first | with_reducible rfl | exact True.intro | rfl | exact id | exact fun h => h | exact fun _ => rfl))
    · have he : (orderC g).2 = 0 := by
        have h' : ((orderC g).2 != 0) = false := by assumption
        simpa using h'
      obtain ⟨hc, e1⟩ := ordC_fst he
      have hok := order_ok hc
      have hin := node_in (check_parts hc).2.1
      rw [← e1] at hok
      have hll := hok.1
      refine only [3, 7, 0] ?_
      (conv => whnf)
      refine looped (σ := Nat) (fun i => [(8, I i)]) (fun i => [.row true tB 4 (thF g.length ((orderC g).1.take i))]) (fun i => i ≤ g.length) (fun i => g.length - i) 0 (Nat.zero_le _) ?_ ?_
      · conv => whnf
        refine ⟨rfl, leaf_i ?_⟩
        repeat' ((with_reducible refine And.intro ?_ ?_) <;> (try (conv => whnf)))
        all_goals (try (first | with_reducible rfl | exact True.intro | rfl | exact id | exact fun h => h | exact fun _ => rfl))
        all_goals (first | exact thF_0 _ _ | trace_state)
      · rintro i hi
        dsimp only at hi ⊢
        have hno : decide ((i : Int) < ((orderC g).1.length : Int)) = true → _ = false := fun h => ord_no hok (i := i) (by have := lt_t h; omega)
        have hrg : decide ((i : Int) < ((orderC g).1.length : Int)) = true → 0 ≤ (getE tI (orderC g).1 i).1 ∧ (getE tI (orderC g).1 i).1 < (g.length : Int) := fun h => ord_rng hok (i := i) (by have := lt_t h; omega)
        have hil : decide ((i : Int) < ((orderC g).1.length : Int)) = true → 0 ≤ (i : Int) ∧ (i : Int) < ((orderC g).1.length : Int) := fun h => by have := lt_t h; omega
        conv => whnf
        repeat' ((first
          | refine fork_f (hno (by assumption)) ?_
          | with_reducible refine ⟨fun h => h, ?_⟩
          | with_reducible refine ⟨pk1, ?_⟩
          | with_reducible refine ⟨pk2, ?_⟩
          | with_reducible refine ⟨pk3, ?_⟩
          | with_reducible refine ⟨pk4, ?_⟩
          | with_reducible refine ⟨pk5, ?_⟩
          | with_reducible refine ⟨pk6, ?_⟩
          | with_reducible refine ⟨trivial, ?_⟩
          | with_reducible refine ⟨fun _ => trivial, ?_⟩
          | with_reducible refine ⟨rfl, ?_⟩
          | with_reducible refine every_i (fun hd => ?_)
          | with_reducible refine everyN_i (fun k hk => ?_)
          | with_reducible refine everyD_i (fun d hd => ?_)
          | with_reducible refine fork_t (by assumption) ?_
          | with_reducible refine fork_f (by assumption) ?_
          | refine fork_t rfl ?_
          | refine fork_f rfl ?_
          | with_reducible refine fork_i (fun h => ?_) (fun h => ?_)
          | with_reducible refine both_i ?_ ?_
          | ((with_reducible refine alike_i ?_); exact ⟨rfl, rfl, rfl⟩)
          | ((with_reducible refine fin_i ?_); (conv => whnf); refine ⟨rfl, ?_⟩)
          | refine ⟨hil (by assumption), ?_⟩
          | refine ⟨fun _ => hil (by assumption), ?_⟩
          | refine ⟨hrg (by assumption), ?_⟩
          | refine ⟨fun _ => hrg (by assumption), ?_⟩
          | refine ⟨of_decide_eq_true rfl, ?_⟩
          | refine ⟨fun _ => of_decide_eq_true rfl, ?_⟩
          | ((with_reducible refine ⟨?_, ?_⟩); (focus (intros; simp_all; done)))
          | ((with_reducible refine ⟨?_, ?_⟩); (focus (intros; omega)))) <;> (try (conv => whnf)))
        · have hi' : i < g.length := by have := lt_t (by assumption : decide ((i : Int) < ((orderC g).1.length : Int)) = true); omega
          have hrg := hrg (by assumption)
          have hil := hil (by assumption)
          refine only [3, 7, 8, 9, 0] ?_
          (conv => whnf)
          refine looped (σ := Nat) (fun k => [(10, I k)]) (fun k => [.row true tB 4 (thF g.length ((orderC g).1.take i)), .cells (ndC false (getE tN g (getE tI (orderC g).1 i).1.toNat))]) (fun k => k ≤ (Nd.ins (getE tN g (getE tI (orderC g).1 i).1.toNat)).length) (fun k => (Nd.ins (getE tN g (getE tI (orderC g).1 i).1.toNat)).length - k) 0 (Nat.zero_le _) ?_ ?_
          · conv => whnf
            refine ⟨rfl, leaf_i ?_⟩
            repeat' ((with_reducible refine And.intro ?_ ?_) <;> (try (conv => whnf)))
            all_goals (try (first | with_reducible rfl | exact True.intro | rfl | exact id | exact fun h => h | exact fun _ => rfl))
            all_goals (first | rfl | trace_state)
          · rintro k hk
            dsimp only at hk ⊢
            have hkl : decide ((k : Int) < ((Nd.ins (getE tN g (getE tI (orderC g).1 i).1.toNat)).length : Int)) = true → 0 ≤ (k : Int) ∧ (k : Int) < ((Nd.ins (getE tN g (getE tI (orderC g).1 i).1.toNat)).length : Int) := fun h => by have := lt_t h; omega
            have hkr : decide ((k : Int) < ((Nd.ins (getE tN g (getE tI (orderC g).1 i).1.toNat)).length : Int)) = true → _ := fun h => ord_in2 hin hok hi' (k := k) (lt_t h)
            have hkn : decide ((k : Int) < ((Nd.ins (getE tN g (getE tI (orderC g).1 i).1.toNat)).length : Int)) = true → _ := fun h => ord_in hok hi' (k := k) (lt_t h)
            conv => whnf
            repeat' ((first
              | refine fork_f (hkn (by assumption)) ?_
              | with_reducible refine ⟨fun h => h, ?_⟩
              | with_reducible refine ⟨pk1, ?_⟩
              | with_reducible refine ⟨pk2, ?_⟩
              | with_reducible refine ⟨pk3, ?_⟩
              | with_reducible refine ⟨pk4, ?_⟩
              | with_reducible refine ⟨pk5, ?_⟩
              | with_reducible refine ⟨pk6, ?_⟩
              | with_reducible refine ⟨trivial, ?_⟩
              | with_reducible refine ⟨fun _ => trivial, ?_⟩
              | with_reducible refine ⟨rfl, ?_⟩
              | with_reducible refine every_i (fun hd => ?_)
              | with_reducible refine everyN_i (fun k hk => ?_)
              | with_reducible refine everyD_i (fun d hd => ?_)
              | with_reducible refine fork_t (by assumption) ?_
              | with_reducible refine fork_f (by assumption) ?_
              | refine fork_t rfl ?_
              | refine fork_f rfl ?_
              | with_reducible refine fork_i (fun h => ?_) (fun h => ?_)
              | with_reducible refine both_i ?_ ?_
              | ((with_reducible refine alike_i ?_); exact ⟨rfl, rfl, rfl⟩)
              | ((with_reducible refine fin_i ?_); (conv => whnf); refine ⟨rfl, ?_⟩)
              | refine ⟨hkl (by assumption), ?_⟩
              | refine ⟨fun _ => hkl (by assumption), ?_⟩
              | refine ⟨hkr (by assumption), ?_⟩
              | refine ⟨fun _ => hkr (by assumption), ?_⟩
              | refine ⟨hil, ?_⟩
              | refine ⟨hrg, ?_⟩
              | refine ⟨of_decide_eq_true rfl, ?_⟩
              | refine ⟨fun _ => of_decide_eq_true rfl, ?_⟩
              | ((with_reducible refine ⟨?_, ?_⟩); (focus (intros; simp_all; done)))
              | ((with_reducible refine ⟨?_, ?_⟩); (focus (intros; omega)))) <;> (try (conv => whnf)))
            · have hk' := lt_t (by assumption : decide ((k : Int) < ((Nd.ins (getE tN g (getE tI (orderC g).1 i).1.toNat)).length : Int)) = true)
              have hins := hf.2 _ (getE_mem g (show (getE tI (orderC g).1 i).1.toNat < g.length by omega))
              refine next_i (k + 1) hk' (by omega) rfl rfl ?_
              conv => whnf
              refine ⟨rfl, leaf_i ?_⟩
              repeat' ((with_reducible refine And.intro ?_ ?_) <;> (try (conv => whnf)))
              all_goals (try (first | with_reducible rfl | exact True.intro | rfl | exact id | exact fun h => h | exact fun _ => rfl))
              all_goals (try (first | rfl | exact wrapS (by omega)))
            · refine next_i (i + 1) hi' (by omega) rfl rfl ?_
              conv => whnf
              refine ⟨rfl, leaf_i ?_⟩
              repeat' ((with_reducible refine And.intro ?_ ?_) <;> (try (conv => whnf)))
              all_goals (try (first | with_reducible rfl | exact True.intro | rfl | exact id | exact fun h => h | exact fun _ => rfl))
              all_goals (try (first | exact th_next (by omega) | exact (th_next (by omega)).symm | exact wrapS (by omega)))
        · all_goals ((with_reducible refine leaf_i ?_); (conv => whnf))
          repeat' ((with_reducible refine And.intro ?_ ?_) <;> (try (conv => whnf)))
          all_goals (try (first | with_reducible rfl | exact True.intro | rfl | exact id | exact fun h => h | exact fun _ => rfl))
          all_goals (first | rfl | (rw [hll, beq_self_eq_true]; rfl) | trace_state)
end Go.Proofs.Ytbgcgokikekmoaa

/- Layer 10: a copy as a row of one's own. -/
namespace Go.Proofs.Ytbgcgokikekmoaa
set_option maxRecDepth 100000
open Go Go.RowKit Go.Proofs.Ytbgcgokikekmoaa.Eng
def k_own2 : Sig := .arg (shR tN) fun g => .done { pre := g.length ≤ 1000000000 ∧ ∀ x : Nd, x ∈ g → (Nd.ins x).length ≤ 1000000000, res := .ow 0 5 g.length, new := [.row true tN 39 g] }
set_option maxHeartbeats 4000000 in
theorem c_own2 : FnOk Try.prog 11 k_own2.con := by
  refine fnOkS mixed tys_ok (cs := []) trivial Try.func11 rfl (by kernel_rfl) Try.ntmps11 _ (h := ?_)
  intro g
  refine ⟨rfl, fun hp => ?_⟩
  obtain ⟨hp1, hp2⟩ := hp
  conv => whnf
  repeat' ((first
    | with_reducible refine ⟨fun h => h, ?_⟩
    | with_reducible refine ⟨pk1, ?_⟩
    | with_reducible refine ⟨pk2, ?_⟩
    | with_reducible refine ⟨pk3, ?_⟩
    | with_reducible refine ⟨pk4, ?_⟩
    | with_reducible refine ⟨pk5, ?_⟩
    | with_reducible refine ⟨pk6, ?_⟩
    | with_reducible refine ⟨trivial, ?_⟩
    | with_reducible refine ⟨fun _ => trivial, ?_⟩
    | with_reducible refine ⟨rfl, ?_⟩
    | with_reducible refine every_i (fun hd => ?_)
    | with_reducible refine everyN_i (fun k hk => ?_)
    | with_reducible refine everyD_i (fun d hd => ?_)
    | with_reducible refine fork_t (by assumption) ?_
    | with_reducible refine fork_f (by assumption) ?_
    | refine fork_t rfl ?_
    | refine fork_f rfl ?_
    | with_reducible refine fork_i (fun h => ?_) (fun h => ?_)
    | with_reducible refine both_i ?_ ?_
    | ((with_reducible refine alike_i ?_); exact ⟨rfl, rfl, rfl⟩)
    | ((with_reducible refine fin_i ?_); (conv => whnf); refine ⟨rfl, ?_⟩)
    | refine ⟨of_decide_eq_true rfl, ?_⟩
    | refine ⟨fun _ => of_decide_eq_true rfl, ?_⟩
    | ((with_reducible refine ⟨?_, ?_⟩); (focus (intros; simp_all; done)))
    | ((with_reducible refine ⟨?_, ?_⟩); (focus (intros; omega)))) <;> (try (conv => whnf)))
  refine looped (σ := Nat × List (El tN)) (fun x => [(4, I x.1), (3, .ow 0 5 x.2.length)]) (fun x => [.row true tN 39 x.2]) (fun x => x.1 ≤ g.length ∧ x.2 = g.take x.1) (fun x => g.length - x.1) (0, []) ⟨Nat.zero_le _, rfl⟩ ?_ ?_
  · conv => whnf
    refine ⟨rfl, leaf_i ?_⟩
    repeat' ((with_reducible refine And.intro ?_ ?_) <;> (try (conv => whnf)))
    all_goals (try (first | with_reducible rfl | exact True.intro | rfl | exact id | exact fun h => h | exact fun _ => rfl))
  · rintro ⟨j, l⟩ ⟨hj, hl⟩
    dsimp only at hj hl
    conv => whnf
    repeat' ((first
      | with_reducible refine ⟨fun h => h, ?_⟩
      | with_reducible refine ⟨pk1, ?_⟩
      | with_reducible refine ⟨pk2, ?_⟩
      | with_reducible refine ⟨pk3, ?_⟩
      | with_reducible refine ⟨pk4, ?_⟩
      | with_reducible refine ⟨pk5, ?_⟩
      | with_reducible refine ⟨pk6, ?_⟩
      | with_reducible refine ⟨trivial, ?_⟩
      | with_reducible refine ⟨fun _ => trivial, ?_⟩
      | with_reducible refine ⟨rfl, ?_⟩
      | with_reducible refine every_i (fun hd => ?_)
      | with_reducible refine everyN_i (fun k hk => ?_)
      | with_reducible refine everyD_i (fun d hd => ?_)
      | with_reducible refine fork_t (by assumption) ?_
      | with_reducible refine fork_f (by assumption) ?_
      | refine fork_t rfl ?_
      | refine fork_f rfl ?_
      | with_reducible refine fork_i (fun h => ?_) (fun h => ?_)
      | with_reducible refine both_i ?_ ?_
      | ((with_reducible refine alike_i ?_); exact ⟨rfl, rfl, rfl⟩)
      | ((with_reducible refine fin_i ?_); (conv => whnf); refine ⟨rfl, ?_⟩)
      | refine ⟨of_decide_eq_true rfl, ?_⟩
      | refine ⟨fun _ => of_decide_eq_true rfl, ?_⟩
      | ((with_reducible refine ⟨?_, ?_⟩); (focus (intros; simp_all; done)))
      | ((with_reducible refine ⟨?_, ?_⟩); (focus (intros; omega)))) <;> (try (conv => whnf)))
    · have hj' : j < g.length := lt_t (by assumption)
      have hlen : l.length = j := by rw [hl, List.length_take]; omega
      refine ⟨hp2 _ (getE_mem g hj'), ?_⟩
      (conv => whnf)
      conv => whnf
      repeat' ((first
        | with_reducible refine ⟨fun h => h, ?_⟩
        | with_reducible refine ⟨pk1, ?_⟩
        | with_reducible refine ⟨pk2, ?_⟩
        | with_reducible refine ⟨pk3, ?_⟩
        | with_reducible refine ⟨pk4, ?_⟩
        | with_reducible refine ⟨pk5, ?_⟩
        | with_reducible refine ⟨pk6, ?_⟩
        | with_reducible refine ⟨trivial, ?_⟩
        | with_reducible refine ⟨fun _ => trivial, ?_⟩
        | with_reducible refine ⟨rfl, ?_⟩
        | with_reducible refine every_i (fun hd => ?_)
        | with_reducible refine everyN_i (fun k hk => ?_)
        | with_reducible refine everyD_i (fun d hd => ?_)
        | with_reducible refine fork_t (by assumption) ?_
        | with_reducible refine fork_f (by assumption) ?_
        | refine fork_t rfl ?_
        | refine fork_f rfl ?_
        | with_reducible refine fork_i (fun h => ?_) (fun h => ?_)
        | with_reducible refine both_i ?_ ?_
        | ((with_reducible refine alike_i ?_); exact ⟨rfl, rfl, rfl⟩)
        | ((with_reducible refine fin_i ?_); (conv => whnf); refine ⟨rfl, ?_⟩)
        | ((with_reducible refine ⟨?_, ?_⟩); (focus (simp only [List.length_append, List.length_cons, List.length_nil]; omega)))
        | refine ⟨of_decide_eq_true rfl, ?_⟩
        | refine ⟨fun _ => of_decide_eq_true rfl, ?_⟩
        | ((with_reducible refine ⟨?_, ?_⟩); (focus (intros; simp_all; done)))
        | ((with_reducible refine ⟨?_, ?_⟩); (focus (intros; omega)))) <;> (try (conv => whnf)))
      refine next_i (j + 1, l ++ [getE tN g j]) ⟨hj', by rw [hl]; exact (take_get g hj').symm⟩ (by dsimp only; omega) rfl rfl ?_
      conv => whnf
      refine ⟨rfl, leaf_i ?_⟩
      repeat' ((with_reducible refine And.intro ?_ ?_) <;> (try (conv => whnf)))
      all_goals (try (first | with_reducible rfl | exact True.intro | rfl | exact id | exact fun h => h | exact fun _ => rfl))
      all_goals first | rfl | exact wrapS (j := j) (by omega) | trace_state
    · have hj' : g.length ≤ j := lt_f (by assumption)
      have e : l = g := by rw [hl, List.take_of_length_le hj']
      subst e
      all_goals ((with_reducible refine leaf_i ?_); (conv => whnf))
      repeat' ((with_reducible refine And.intro ?_ ?_) <;> (try (conv => whnf)))
      all_goals (try (first | with_reducible rfl | exact True.intro | rfl | exact id | exact fun h => h | exact fun _ => rfl))
end Go.Proofs.Ytbgcgokikekmoaa
