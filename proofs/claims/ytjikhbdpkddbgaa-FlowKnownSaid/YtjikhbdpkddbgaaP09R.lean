/- Graphs and bytes, there and back: in plain Lean. No program in sight. -/
import Derived.Test.YtjikhbdpkddbgaaP09P
import Derived.Test.YtjikhbdpkddbgaaP09G
namespace Go.Proofs.Ytjikhbdpkddbgaa
set_option linter.unusedVariables false
set_option linter.unusedSimpArgs false
open Go Go.Proofs.Ytjikhbdpkddbgaa.Eng

/-- A node's numbers are of their kinds. -/
def okN (n : Nd) : Prop := (0 ≤ n.1 ∧ n.1 ≤ 255) ∧ (0 ≤ n.2.1 ∧ n.2.1 ≤ 255) ∧ (-9223372036854775808 ≤ n.2.2.1 ∧ n.2.2.1 ≤ 9223372036854775807)
theorem u8_id {x : Int} (h : 0 ≤ x) (h' : x ≤ 255) : u8 x = (x, ()) := by
  unfold u8; rw [IntKind.wrap_u8]; congr 1; omega
theorem may_spec {n : Nd} (h : mayN n = true) : 0 ≤ Nd.dep n ∧ Nd.dep n ≤ 3 ∧ (Nd.ins n).length ≤ 2 ∧ ∀ x ∈ Nd.ins n, 0 ≤ x.1 ∧ x.1 ≤ 31 := by
  have hl := may_len h
  simp only [mayN, Bool.and_eq_true] at h
  obtain ⟨⟨⟨h1, h2⟩, h3⟩, h4⟩ := h
  refine ⟨of_decide_eq_true h1, of_decide_eq_true h2, hl, fun x hx => ?_⟩
  have h4 : hasW (Nd.ins n) = false := not_t h4
  rw [hasW_eq] at h4
  have := List.any_eq_false.1 h4 x hx
  unfold wrongI at this
  simp at this
  omega
theorem fd (b : Int) (k : Nat) : b.fdiv (2 ^ k) = b / 2 ^ k := Int.fdiv_eq_ediv_of_nonneg _ (Int.le_of_lt (Int.pow_pos (by decide)))
/-- A number's bytes. -/
def by8 (b : Int) : List (El tU) := [u8 (b.fdiv (2 ^ 56)), u8 (b.fdiv (2 ^ 48)), u8 (b.fdiv (2 ^ 40)), u8 (b.fdiv (2 ^ 32)), u8 (b.fdiv (2 ^ 24)), u8 (b.fdiv (2 ^ 16)), u8 (b.fdiv (2 ^ 8)), u8 (b.fdiv (2 ^ 0))]
theorem putN_parts (n : Nd) : putN n = (n.kind, ()) :: (n.a, ()) :: (by8 n.b ++ (u8 n.dep :: u8 n.ins.length :: n.ins.map fun x => u8 x.1)) := rfl
theorem be_by8 {b : Int} (h : -9223372036854775808 ≤ b ∧ b ≤ 9223372036854775807) : IntKind.i64.wrap (be 0 (by8 b)) = b := by
  simp only [by8, be, u8, IntKind.wrap_u8, fd]
  have e0 : b / 2 ^ 0 = b := by simp
  rw [e0]
  obtain ⟨q1, h1⟩ : ∃ q, q = b / 256 := ⟨_, rfl⟩
  obtain ⟨q2, h2⟩ : ∃ q, q = q1 / 256 := ⟨_, rfl⟩
  obtain ⟨q3, h3⟩ : ∃ q, q = q2 / 256 := ⟨_, rfl⟩
  obtain ⟨q4, h4⟩ : ∃ q, q = q3 / 256 := ⟨_, rfl⟩
  obtain ⟨q5, h5⟩ : ∃ q, q = q4 / 256 := ⟨_, rfl⟩
  obtain ⟨q6, h6⟩ : ∃ q, q = q5 / 256 := ⟨_, rfl⟩
  obtain ⟨q7, h7⟩ : ∃ q, q = q6 / 256 := ⟨_, rfl⟩
  have f1 : b / 2 ^ 8 = q1 := by rw [h1]; rfl
  have f2 : b / 2 ^ 16 = q2 := by rw [h2, h1, Int.ediv_ediv_of_nonneg (by decide)]; rfl
  have f3 : b / 2 ^ 24 = q3 := by rw [h3, h2, h1, Int.ediv_ediv_of_nonneg (by decide), Int.ediv_ediv_of_nonneg (by decide)]; rfl
  have f4 : b / 2 ^ 32 = q4 := by rw [h4, ← f3, Int.ediv_ediv_of_nonneg (by decide)]; rfl
  have f5 : b / 2 ^ 40 = q5 := by rw [h5, ← f4, Int.ediv_ediv_of_nonneg (by decide)]; rfl
  have f6 : b / 2 ^ 48 = q6 := by rw [h6, ← f5, Int.ediv_ediv_of_nonneg (by decide)]; rfl
  have f7 : b / 2 ^ 56 = q7 := by rw [h7, ← f6, Int.ediv_ediv_of_nonneg (by decide)]; rfl
  rw [f1, f2, f3, f4, f5, f6, f7, IntKind.wrap_i64]
  omega
theorem node_back {n : Nd} (ho : okN n) (hm : mayN n = true) (r : List (El tU)) : nodeP (putN n ++ r) = some (n, r) := by
  obtain ⟨k, a, b, d, l, ⟨⟩⟩ := n
  obtain ⟨h1, h2, h3, h4⟩ := may_spec hm
  have h1 : 0 ≤ d := h1
  have h2 : d ≤ 3 := h2
  have h3 : l.length ≤ 2 := h3
  have h4 : ∀ x ∈ l, 0 ≤ x.1 ∧ x.1 ≤ 31 := h4
  obtain ⟨⟨o1, o2⟩, ⟨o3, o4⟩, o5⟩ := ho
  have hlen := putN_len (k, a, b, d, l, ())
  have hmap : (l.map fun x => u8 x.1) = insP l := by
    unfold insP
    refine List.map_congr_left fun x hx => ?_
    have := h4 x hx
    exact u8_id this.1 (by omega)
  have hb : insP (insP l) = l := by
    unfold insP
    rw [List.map_map]
    exact (List.map_congr_left fun x _ => rfl).trans (List.map_id l)
  have e : putN (k, a, b, d, l, ()) ++ r = (k, ()) :: (a, ()) :: (by8 b ++ ((d, ()) :: ((l.length : Int), ()) :: (insP l ++ r))) := by
    rw [putN_parts]
    show (k, ()) :: (a, ()) :: (by8 b ++ (u8 d :: u8 l.length :: (l.map fun x => u8 x.1))) ++ r = _
    rw [u8_id h1 (by omega), u8_id (x := (l.length : Int)) (by omega) (by omega), hmap]
    simp
  rw [e]
  have g11 : getE tU ((k, ()) :: (a, ()) :: (by8 b ++ ((d, ()) :: ((l.length : Int), ()) :: (insP l ++ r)))) 11 = ((l.length : Int), ()) := rfl
  have g10 : getE tU ((k, ()) :: (a, ()) :: (by8 b ++ ((d, ()) :: ((l.length : Int), ()) :: (insP l ++ r)))) 10 = (d, ()) := rfl
  have hl2 : ((k, ()) :: (a, ()) :: (by8 b ++ ((d, ()) :: ((l.length : Int), ()) :: (insP l ++ r))) : List (El tU)).length = 12 + l.length + r.length := by
    simp [by8, insP]; omega
  unfold nodeP
  rw [g11, g10, Int.toNat_natCast, if_neg (by omega), if_neg (by omega)]
  congr 1
  refine Prod.ext ?_ ?_
  · show ((k, a, IntKind.i64.wrap (be 0 (by8 b)), d, insP ((insP l ++ r).take l.length), ()) : Nd) = _
    rw [be_by8 o5, List.take_left' (by simp [insP]), hb]
  · show List.drop (12 + l.length) _ = r
    rw [← List.drop_drop]
    exact List.drop_left' (l₁ := insP l) (by simp [insP])

theorem getP_put : ∀ (g : List Nd), (∀ n ∈ g, okN n) → g.all mayN = true → getP g.length (g.flatMap putN) = some g
  | [], _, _ => rfl
  | n :: r, ho, hm => by
    rw [List.all_cons, Bool.and_eq_true] at hm
    rw [List.flatMap_cons, List.length_cons, getP, node_back (ho n (by simp)) hm.1]
    simp only [hm.1, if_true]
    rw [getP_put r (fun n hn => ho n (by simp [hn])) hm.2]
    rfl
theorem put_ok {g : List Nd} {a : List (El tU)} (h : putG g = (a, 0)) : (1 ≤ g.length ∧ g.length ≤ 32) ∧ g.all mayN = true ∧ a = u8 g.length :: g.flatMap putN := by
  unfold putG at h
  split at h
  · injection h with _ h; cases h
  · rename_i hl
    rw [putF_all] at h
    by_cases hm : g.all mayN = true
    · rw [if_pos hm] at h
      injection h with h _
      exact ⟨by omega, hm, h.symm⟩
    · rw [if_neg hm] at h
      injection h with _ h; cases h
theorem put_two {g : List Nd} : (putG g).2 = 0 ∨ ((putG g).2 ≠ 0 ∧ (putG g).1 = []) := by
  unfold putG
  split
  · exact .inr ⟨by decide, rfl⟩
  · split
    · exact .inr ⟨by decide, rfl⟩
    · exact .inl rfl
/-- What is put is got as it was. -/
theorem get_put {g : List Nd} {a : List (El tU)} (ho : ∀ n ∈ g, okN n) (h : putG g = (a, 0)) : getC a = some g := by
  obtain ⟨hl, hm, rfl⟩ := put_ok h
  unfold getC
  rw [u8_id (x := (g.length : Int)) (by omega) (by omega)]
  show (if (g.length : Int) < 1 ∨ 32 < (g.length : Int) then none else getP ((g.length : Int)).toNat (g.flatMap putN)) = some g
  rw [if_neg (by omega), Int.toNat_natCast, getP_put g ho hm]

theorem isB_cons {c : El tU} {r : List (El tU)} (h : isB (c :: r)) : (0 ≤ c.1 ∧ c.1 ≤ 255) ∧ isB r := ⟨h c (by simp), fun x hx => h x (by simp [hx])⟩
theorem by8_be {l : List (El tU)} (hl : l.length = 8) (hb : isB l) : by8 (IntKind.i64.wrap (be 0 l)) = l := by
  match l, hl with
  | [c0, c1, c2, c3, c4, c5, c6, c7], _ =>
    obtain ⟨h0, hb⟩ := isB_cons hb
    obtain ⟨h1, hb⟩ := isB_cons hb
    obtain ⟨h2, hb⟩ := isB_cons hb
    obtain ⟨h3, hb⟩ := isB_cons hb
    obtain ⟨h4, hb⟩ := isB_cons hb
    obtain ⟨h5, hb⟩ := isB_cons hb
    obtain ⟨h6, hb⟩ := isB_cons hb
    obtain ⟨h7, hb⟩ := isB_cons hb
    obtain ⟨c0, ⟨⟩⟩ := c0
    obtain ⟨c1, ⟨⟩⟩ := c1
    obtain ⟨c2, ⟨⟩⟩ := c2
    obtain ⟨c3, ⟨⟩⟩ := c3
    obtain ⟨c4, ⟨⟩⟩ := c4
    obtain ⟨c5, ⟨⟩⟩ := c5
    obtain ⟨c6, ⟨⟩⟩ := c6
    obtain ⟨c7, ⟨⟩⟩ := c7
    simp only at h0 h1 h2 h3 h4 h5 h6 h7
    simp only [by8, be, u8, IntKind.wrap_u8, IntKind.wrap_i64, fd]
    have e0 : ∀ b : Int, b / 2 ^ 0 = b := fun b => by simp
    have e1 : (2 ^ 8 : Int) = 256 := rfl
    have e2 : (2 ^ 16 : Int) = 65536 := rfl
    have e3 : (2 ^ 24 : Int) = 16777216 := rfl
    have e4 : (2 ^ 32 : Int) = 4294967296 := rfl
    have e5 : (2 ^ 40 : Int) = 1099511627776 := rfl
    have e6 : (2 ^ 48 : Int) = 281474976710656 := rfl
    have e7 : (2 ^ 56 : Int) = 72057594037927936 := rfl
    rw [e0, e1, e2, e3, e4, e5, e6, e7]
    simp only [List.cons.injEq, Prod.mk.injEq, and_true]
    refine ⟨?_, ?_, ?_, ?_, ?_, ?_, ?_, ?_⟩ <;> omega

theorem map_u8 {l : List (El tU)} (hb : isB l) : ((insP l).map fun x => u8 x.1) = l := by
  unfold insP
  rw [List.map_map]
  refine (List.map_congr_left fun x hx => ?_).trans (List.map_id l)
  exact u8_id (hb x hx).1 (hb x hx).2
theorem uncons {α : Type} {b : List α} {n : Nat} (h : n + 1 ≤ b.length) : ∃ c t, b = c :: t ∧ n ≤ t.length := by
  cases b with
  | nil => simp at h
  | cons c t => exact ⟨c, t, rfl, by simpa using h⟩
theorem node_put {b : List (El tU)} (hb : isB b) {n : Nd} {r : List (El tU)} (h : nodeP b = some (n, r)) : putN n ++ r = b ∧ okN n := by
  unfold nodeP at h
  split at h
  · cases h
  · rename_i h12
    split at h
    · cases h
    · rename_i hk
      have h12 : 12 ≤ b.length := by omega
      obtain ⟨c0, t1, rfl, g0⟩ := uncons h12
      obtain ⟨c1, t2, rfl, g1⟩ := uncons g0
      obtain ⟨c2, t3, rfl, g2⟩ := uncons g1
      obtain ⟨c3, t4, rfl, g3⟩ := uncons g2
      obtain ⟨c4, t5, rfl, g4⟩ := uncons g3
      obtain ⟨c5, t6, rfl, g5⟩ := uncons g4
      obtain ⟨c6, t7, rfl, g6⟩ := uncons g5
      obtain ⟨c7, t8, rfl, g7⟩ := uncons g6
      obtain ⟨c8, t9, rfl, g8⟩ := uncons g7
      obtain ⟨c9, t10, rfl, g9⟩ := uncons g8
      obtain ⟨c10, t11, rfl, g10⟩ := uncons g9
      obtain ⟨c11, t, rfl, g11⟩ := uncons g10
      have hk : ¬ (c0 :: c1 :: c2 :: c3 :: c4 :: c5 :: c6 :: c7 :: c8 :: c9 :: c10 :: c11 :: t).length < 12 + c11.1.toNat := hk
      have h : some ((c0.1, c1.1, IntKind.i64.wrap (be 0 [c2, c3, c4, c5, c6, c7, c8, c9]), c10.1, insP (t.take c11.1.toNat), ()), (c0 :: c1 :: c2 :: c3 :: c4 :: c5 :: c6 :: c7 :: c8 :: c9 :: c10 :: c11 :: t).drop (12 + c11.1.toNat)) = some (n, r) := h
      have h0 := hb c0 (by simp)
      have h1 := hb c1 (by simp)
      have h10 := hb c10 (by simp)
      have h11 := hb c11 (by simp)
      have h8 : isB [c2, c3, c4, c5, c6, c7, c8, c9] := fun x hx => hb x (by simp at hx ⊢; rcases hx with rfl | rfl | rfl | rfl | rfl | rfl | rfl | rfl <;> simp)
      have ht : isB (t.take c11.1.toNat) := fun x hx => hb x (by have := List.mem_of_mem_take hx; simp [this])
      rw [← List.drop_drop] at h
      injection h with h
      injection h with hn hr
      subst hn hr
      have hl : (insP (t.take c11.1.toNat)).length = c11.1.toNat := by
        simp at hk
        simp [insP]; omega
      refine ⟨?_, h0, h1, ?_⟩
      · rw [putN_parts]
        show (c0.1, ()) :: (c1.1, ()) :: (by8 (IntKind.i64.wrap (be 0 [c2, c3, c4, c5, c6, c7, c8, c9])) ++ (u8 c10.1 :: u8 (insP (t.take c11.1.toNat)).length :: ((insP (t.take c11.1.toNat)).map fun x => u8 x.1))) ++ t.drop c11.1.toNat = _
        rw [by8_be rfl h8, map_u8 ht, u8_id h10.1 h10.2, hl, u8_id (x := ((c11.1.toNat : Nat) : Int)) (by omega) (by omega), Int.toNat_of_nonneg h11.1]
        simp only [List.cons_append, List.nil_append, List.append_assoc, List.take_append_drop]
      · show -9223372036854775808 ≤ IntKind.i64.wrap _ ∧ IntKind.i64.wrap _ ≤ 9223372036854775807
        rw [IntKind.wrap_i64]; omega
theorem getP_back : ∀ (k : Nat) (b : List (El tU)) (g : List Nd), isB b → getP k b = some g → g.flatMap putN = b ∧ g.length = k ∧ g.all mayN = true ∧ ∀ n ∈ g, okN n
  | 0, b, g, hb, h => by
    simp only [getP] at h
    split at h
    · rename_i e
      injection h with h; subst h e
      exact ⟨rfl, rfl, rfl, fun n hn => by cases hn⟩
    · cases h
  | k + 1, b, g, hb, h => by
    simp only [getP] at h
    split at h
    · cases h
    · rename_i n r hn
      split at h
      · rename_i hm
        obtain ⟨h1, h2⟩ := node_put hb hn
        cases hp : getP k r with
        | none => rw [hp] at h; cases h
        | some q =>
          rw [hp] at h; injection h with h; subst h
          obtain ⟨h3, h4, h5, h6⟩ := getP_back k r q (nodeP_isB hb hn) hp
          refine ⟨by rw [List.flatMap_cons, h3, h1], by simp [h4], by rw [List.all_cons, hm, h5]; rfl, fun x hx => ?_⟩
          rcases List.mem_cons.1 hx with rfl | hx
          · exact h2
          · exact h6 x hx
      · cases h
/-- What is got is put as the same bytes. -/
theorem put_get {b : List (El tU)} {g : List Nd} (hb : isB b) (h : getC b = some g) : putG g = (b, 0) ∧ ∀ n ∈ g, okN n := by
  unfold getC at h
  cases b with
  | nil => cases h
  | cons c r =>
    simp only [] at h
    split at h
    · cases h
    · rename_i hc
      obtain ⟨h0, hb'⟩ := isB_cons hb
      obtain ⟨h1, h2, h3, h4⟩ := getP_back _ _ _ hb' h
      refine ⟨?_, h4⟩
      unfold putG
      rw [if_neg (by omega), putF_all, if_pos h3, h1, h2]
      show (u8 ((c.1.toNat : Nat) : Int) :: r, (0 : Int)) = _
      rw [Int.toNat_of_nonneg h0.1, u8_id h0.1 h0.2]
theorem nodeP_app {b s : List (El tU)} {n : Nd} {r : List (El tU)} (h : nodeP b = some (n, r)) : nodeP (b ++ s) = some (n, r ++ s) := by
  have hg : ∀ j, j < b.length → getE tU (b ++ s) j = getE tU b j := fun j hj => by
    unfold getE; simp [List.getD, List.getElem?_append_left hj]
  unfold nodeP at h ⊢
  split at h
  · cases h
  · rename_i h12
    rw [hg 0 (by omega), hg 1 (by omega), hg 10 (by omega), hg 11 (by omega)]
    split at h
    · cases h
    · rename_i hk
      rw [if_neg (by simp; omega), if_neg (by simp; omega)]
      injection h with h
      injection h with h1 h2
      rw [← h1, ← h2, List.drop_append_of_le_length (by omega), List.drop_append_of_le_length (by omega), List.drop_append_of_le_length (by omega), List.take_append_of_le_length (by simp; omega), List.take_append_of_le_length (by simp; omega)]
theorem getP_app : ∀ (k : Nat) (b s : List (El tU)) (g : List Nd), getP k b = some g → getP k (b ++ s) = if s = [] then some g else none
  | 0, b, s, g, h => by
    simp only [getP] at h ⊢
    split at h
    · rename_i e
      injection h with h; subst h e
      by_cases hs : s = [] <;> simp [hs]
    · cases h
  | k + 1, b, s, g, h => by
    simp only [getP] at h ⊢
    split at h
    · cases h
    · rename_i n r hn
      rw [nodeP_app hn]
      simp only []
      split at h
      · rename_i hm
        rw [if_pos hm]
        cases hp : getP k r with
        | none => rw [hp] at h; cases h
        | some q =>
          rw [hp] at h; injection h with h; subst h
          rw [getP_app k r s q hp]
          split <;> rfl
      · cases h
/-- No beginning of a graph's bytes is a graph. -/
theorem get_cut {g : List Nd} {a : List (El tU)} (ho : ∀ n ∈ g, okN n) (h : putG g = (a, 0)) {n : Nat} (hn : n < a.length) : getC (a.take n) = none := by
  have hg := get_put ho h
  cases n with
  | zero => rw [List.take_zero]; rfl
  | succ n =>
    cases a with
    | nil => simp at hn
    | cons c r =>
      rw [List.take_succ_cons]
      unfold getC at hg ⊢
      simp only [] at hg ⊢
      split
      · rfl
      · rename_i hc
        rw [if_neg hc] at hg
        cases hp : getP c.1.toNat (r.take n) with
        | none => rfl
        | some q =>
          exfalso
          have := getP_app _ _ (r.drop n) _ hp
          rw [List.take_append_drop, hg] at this
          rw [if_neg (fun e => by have := congrArg List.length e; simp at this hn; omega)] at this
          cases this
theorem putG_isB {g : List Nd} (ho : ∀ n ∈ g, okN n) : isB (putG g).1 := by
  intro x hx
  have h8 : ∀ y : Int, 0 ≤ (u8 y).1 ∧ (u8 y).1 ≤ 255 := fun y => by unfold u8; simp only [IntKind.wrap_u8]; omega
  unfold putG at hx
  split at hx
  · cases hx
  · split at hx
    · cases hx
    · rename_i l hl
      rw [putF_all] at hl
      split at hl
      · injection hl with hl
        rcases List.mem_cons.1 hx with rfl | hx
        · exact h8 _
        · rw [← hl] at hx
          obtain ⟨n, hn, hx⟩ := List.mem_flatMap.1 hx
          obtain ⟨h1, h2, _⟩ := ho n hn
          rw [putN_parts] at hx
          simp only [by8, List.mem_cons, List.mem_append, List.not_mem_nil, or_false, List.mem_map] at hx
          rcases hx with rfl | rfl | hx | rfl | rfl | ⟨y, _, rfl⟩
          · exact h1
          · exact h2
          · rcases hx with rfl | rfl | rfl | rfl | rfl | rfl | rfl | rfl <;> exact h8 _
          · exact h8 _
          · exact h8 _
          · exact h8 _
      · cases hl
end Go.Proofs.Ytjikhbdpkddbgaa
