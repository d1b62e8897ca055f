/- The least of summaries in plain Lean: the sorted row without doubles is what the document inserts one by one. -/
import Derived.Test.YthlkhjfilfdpiaaD08O
import Derived.Test.YthlkhjfilfdpiaaP08
namespace Go.Proofs.Ythlkhjfilfdpiaa
set_option linter.unusedVariables false
open Go Go.Sort Go.Shelf Go.Proofs.Ythlkhjfilfdpiaa.Eng Go.Proofs

theorem strict_unique {α : Type} (lt : α → α → Bool) (irr : ∀ x, lt x x = false) (tr : ∀ x y z, lt x y = true → lt y z = true → lt x z = true) : ∀ (a b : List α), a.Pairwise (fun x y => lt x y = true) → b.Pairwise (fun x y => lt x y = true) → (∀ x, x ∈ a ↔ x ∈ b) → a = b
  | [], b, _, _, h => by
    cases b with
    | nil => rfl
    | cons y b => exact absurd ((h y).2 (List.mem_cons_self ..)) (by simp)
  | x :: a, [], _, _, h => absurd ((h x).1 (List.mem_cons_self ..)) (by simp)
  | x :: a, y :: b, ha, hb, h => by
    obtain ⟨h1, h2⟩ := List.pairwise_cons.1 ha
    obtain ⟨h3, h4⟩ := List.pairwise_cons.1 hb
    have hxy : x = y := by
      refine Classical.byContradiction fun hne => ?_
      have hx : x ∈ b := (List.mem_cons.1 ((h x).1 (List.mem_cons_self ..))).resolve_left hne
      have hy : y ∈ a := (List.mem_cons.1 ((h y).2 (List.mem_cons_self ..))).resolve_left (fun e => hne e.symm)
      have := tr _ _ _ (h1 y hy) (h3 x hx)
      rw [irr] at this; cases this
    subst hxy
    rw [strict_unique lt irr tr a b h2 h4 fun z => ?_]
    have hz := h z
    constructor
    · intro hm
      rcases List.mem_cons.1 (hz.1 (List.mem_cons_of_mem _ hm)) with rfl | hm'
      · have := h1 _ hm; rw [irr] at this; cases this
      · exact hm'
    · intro hm
      rcases List.mem_cons.1 (hz.2 (List.mem_cons_of_mem _ hm)) with rfl | hm'
      · have := h3 _ hm; rw [irr] at this; cases this
      · exact hm'

theorem eqS_iff (x y : El tS) : eqS x y = true ↔ x = y := by
  obtain ⟨a1, a2, a3, a4, a5, a6, a7, ⟨⟩⟩ := x
  obtain ⟨b1, b2, b3, b4, b5, b6, b7, ⟨⟩⟩ := y
  simp [eqS]
abbrev ltS (x y : El tS) : Bool := ltOf ordS x y
theorem ltS_irr (x : El tS) : ltS x x = false := ord_swo.irrefl x
theorem ltS_tr (x y z : El tS) : ltS x y = true → ltS y z = true → ltS x z = true := ord_swo.trans x y z
theorem ltS_tri (x y : El tS) : ltS x y = true ∨ x = y ∨ ltS y x = true := by
  cases h1 : ltS x y with
  | true => exact .inl rfl
  | false =>
    cases h2 : ltS y x with
    | true => exact .inr (.inr rfl)
    | false => exact .inr (.inl (ord_parts x y h1 h2))

theorem comp_sorted : ∀ (r : List (El tS)) (p : El tS), (p :: r).Pairwise (fun x y => ltS y x = false) → (∀ z ∈ compG p r, ltS p z = true) ∧ (compG p r).Pairwise (fun x y => ltS x y = true)
  | [], p, _ => ⟨fun z hz => (by cases hz), List.Pairwise.nil⟩
  | y :: r, p, h => by
    obtain ⟨h1, h2⟩ := List.pairwise_cons.1 h
    simp only [compG]
    split
    · rename_i he
      have := (eqS_iff _ _).1 he
      subst this
      exact comp_sorted r y h2
    · rename_i he
      have hne : y ≠ p := fun e => he ((eqS_iff _ _).2 e)
      have hlt : ltS p y = true := by
        rcases ltS_tri p y with h | h | h
        · exact h
        · exact absurd h.symm hne
        · have := h1 y (List.mem_cons_self ..); rw [h] at this; cases this
      obtain ⟨h3, h4⟩ := comp_sorted r y h2
      refine ⟨fun z hz => ?_, List.pairwise_cons.2 ⟨h3, h4⟩⟩
      rcases List.mem_cons.1 hz with rfl | hz
      · exact hlt
      · exact ltS_tr _ _ _ hlt (h3 z hz)
theorem comp_strict (l : List (El tS)) (h : l.Pairwise (fun x y => ltS y x = false)) : (comp l).Pairwise (fun x y => ltS x y = true) := by
  cases l with
  | nil => exact List.Pairwise.nil
  | cons p r =>
    obtain ⟨h1, h2⟩ := comp_sorted r p h
    exact List.pairwise_cons.2 ⟨h1, h2⟩
theorem compG_mem : ∀ (r : List (El tS)) (p x : El tS), (x = p ∨ x ∈ compG p r) ↔ (x = p ∨ x ∈ r)
  | [], p, x => by simp [compG]
  | y :: r, p, x => by
    simp only [compG]
    split
    · rename_i he
      have := (eqS_iff _ _).1 he
      subst this
      rw [compG_mem r y x]; simp
    · have := compG_mem r y x
      simp only [List.mem_cons]
      rw [this]
theorem comp_mem (l : List (El tS)) (x : El tS) : x ∈ comp l ↔ x ∈ l := by
  cases l with
  | nil => rfl
  | cons p r => simp only [comp, List.mem_cons]; exact compG_mem r p x
theorem srtS_sorted (l : List (El tS)) : (srtS l).Pairwise (fun x y => ltS y x = false) := by
  have := List.pairwise_mergeSort (le := fun x y => !(ltOf ordS) y x) (fun a b c h1 h2 => by
    simp only [Bool.not_eq_true'] at *
    exact ord_swo.ntrans c b a h2 h1) (fun a b => by
    simp only [Bool.or_eq_true, Bool.not_eq_true']
    cases h : ltOf ordS b a with
    | false => exact .inl rfl
    | true =>
      refine .inr ?_
      cases h2 : ltOf ordS a b with
      | false => rfl
      | true => have := ord_swo.trans _ _ _ h h2; rw [ord_swo.irrefl] at this; cases this) l
  refine this.imp fun {x y} h => ?_
  simpa using h
theorem srtS_mem (l : List (El tS)) (x : El tS) : x ∈ srtS l ↔ x ∈ l := by unfold srtS; simp

theorem idxA_iff (s : El tS) : ∀ (l : List (El tS)) (j : Nat), 0 ≤ idxA s j l ↔ ∃ r ∈ l, aheadS s r = true
  | [], j => by simp [idxA]
  | x :: r, j => by
    simp only [idxA]
    split
    · rename_i h
      constructor
      · exact fun _ => ⟨x, List.mem_cons_self .., h⟩
      · exact fun _ => Int.natCast_nonneg j
    · rename_i h
      rw [idxA_iff s r (j + 1)]
      constructor
      · rintro ⟨y, hy, h2⟩; exact ⟨y, List.mem_cons_of_mem _ hy, h2⟩
      · rintro ⟨y, hy, h2⟩
        rcases List.mem_cons.1 hy with rfl | hy
        · exact absurd h2 h
        · exact ⟨y, hy, h2⟩
/-- Is one of the least? -/
def MinS (l : List (El tS)) (s : El tS) : Prop := (toS s).ok = true ∧ ∀ r ∈ l, r ≠ s → leS (toS r) (toS s) = false
theorem aheadS_false (s r : El tS) : aheadS s r = false ↔ (r ≠ s → leS (toS r) (toS s) = false) := by
  unfold aheadS
  cases h : eqS r s with
  | true =>
    have := (eqS_iff _ _).1 h
    subst this; simp
  | false =>
    have hne : r ≠ s := fun e => by rw [(eqS_iff _ _).2 e] at h; cases h
    simp [hne]
theorem stays_iff (l : List (El tS)) (s : El tS) : staysS l s = true ↔ MinS l s := by
  unfold staysS MinS
  cases hok : (toS s).ok with
  | false => simp
  | true =>
    simp only [cond_true, Bool.not_eq_true', true_and]
    unfold hasA
    rw [decide_eq_false_iff_not, ge_iff_le, idxA_iff]
    constructor
    · intro h r hr
      refine (aheadS_false s r).1 ?_
      cases hh : aheadS s r with
      | false => rfl
      | true => exact absurd ⟨r, hr, hh⟩ h
    · rintro h ⟨r, hr, hh⟩
      rw [(aheadS_false s r).2 (h r hr)] at hh; cases hh
theorem comp_least_mem (l : List (El tS)) (s : El tS) : s ∈ comp (leastL l) ↔ s ∈ l ∧ MinS l s := by
  rw [comp_mem]; unfold leastL
  rw [srtS_mem, List.mem_filter, stays_iff]

/-! ### The document's -/
theorem ah1 (a b : Int) (R : Bool) : ((bif a != b then decide (a < b) else R) = true) ↔ (a < b ∨ a = b ∧ R = true) := by
  by_cases h : a = b
  · subst h; simp
  · have : (a != b) = true := by simpa using h
    rw [this, cond_true, decide_eq_true_eq]
    exact ⟨.inl, fun h' => h'.elim id fun h' => absurd h'.1 h⟩
theorem aheadR_lt (x y : El tS) : aheadR x y = ltS x y := by
  rw [Bool.eq_iff_iff, ord_lt x y]
  unfold aheadR
  rw [ah1, ah1, ah1, ah1, ah1, ah1, ah1]
  simp only [Bool.false_eq_true, and_false, or_false]
theorem ins_mem (x z : El tS) (l : List (El tS)) : z ∈ insR x l ↔ z = x ∨ z ∈ l := by
  unfold insR
  constructor
  · intro h
    simp only [List.mem_append, List.mem_singleton] at h
    rcases h with (h | h) | h
    · exact .inr (List.mem_of_mem_take h)
    · exact .inl h
    · exact .inr (List.mem_of_mem_drop h)
  · intro h
    simp only [List.mem_append, List.mem_singleton]
    rcases h with h | h
    · exact .inl (.inr h)
    · rw [← List.take_append_drop (posR x l) l] at h
      rcases List.mem_append.1 h with h | h
      · exact .inl (.inl h)
      · exact .inr h
theorem ins_strict (x : El tS) : ∀ (l : List (El tS)), l.Pairwise (fun x y => ltS x y = true) → ¬ x ∈ l → (insR x l).Pairwise (fun x y => ltS x y = true)
  | [], _, _ => by simp [insR, posR]
  | y :: r, h, hx => by
    obtain ⟨h1, h2⟩ := List.pairwise_cons.1 h
    simp only [List.mem_cons, not_or] at hx
    by_cases hy : ltS y x = true
    · have e : insR x (y :: r) = y :: insR x r := by
        unfold insR
        simp only [posR, aheadR_lt, if_pos hy, List.take_succ_cons, List.drop_succ_cons]
        rfl
      rw [e]
      refine List.pairwise_cons.2 ⟨fun z hz => ?_, ins_strict x r h2 hx.2⟩
      rcases (ins_mem x z r).1 hz with rfl | hz
      · exact hy
      · exact h1 z hz
    · have e : insR x (y :: r) = x :: y :: r := by
        unfold insR
        simp only [posR, aheadR_lt, if_neg hy, List.take_zero, List.drop_zero]
        rfl
      rw [e]
      have hxy : ltS x y = true := by
        rcases ltS_tri x y with h | h | h
        · exact h
        · exact absurd h hx.1
        · exact absurd h hy
      refine List.pairwise_cons.2 ⟨fun z hz => ?_, h⟩
      rcases List.mem_cons.1 hz with rfl | hz
      · exact hxy
      · exact ltS_tr _ _ _ hxy (h1 z hz)
theorem hits_iff (l : List (El tS)) (i : Nat) : ∀ (n k : Nat), hits l i n k = true ↔ ∃ j, k ≤ j ∧ j < k + n ∧ hitR l i j = true
  | 0, k => by
    simp only [hits, Bool.false_eq_true, false_iff]
    rintro ⟨j, h1, h2, _⟩; omega
  | n + 1, k => by
    simp only [hits, Bool.or_eq_true]
    rw [hits_iff l i n (k + 1)]
    constructor
    · rintro (h | ⟨j, h1, h2, h3⟩)
      · exact ⟨k, Nat.le_refl _, by omega, h⟩
      · exact ⟨j, by omega, by omega, h3⟩
    · rintro ⟨j, h1, h2, h3⟩
      by_cases hj : j = k
      · subst hj; exact .inl h3
      · exact .inr ⟨j, by omega, by omega, h3⟩
theorem hitR_false (l : List (El tS)) (i k : Nat) : hitR l i k = false ↔ (getE tS l k ≠ getE tS l i → leS (toS (getE tS l k)) (toS (getE tS l i)) = false) ∧ (k < i → getE tS l k ≠ getE tS l i) := by
  unfold hitR
  generalize getE tS l k = x
  generalize getE tS l i = y
  cases h : eqS x y with
  | true =>
    have := (eqS_iff _ _).1 h
    subst this
    simp
  | false =>
    have hne : x ≠ y := fun e => by rw [(eqS_iff _ _).2 e] at h; cases h
    simp [hne]
theorem get_mem {l : List (El tS)} {k : Nat} (h : k < l.length) : getE tS l k ∈ l := List.mem_of_getElem? (getE_ok h)
theorem staysR_iff (l : List (El tS)) (i : Nat) : staysR l i = true ↔ MinS l (getE tS l i) ∧ ∀ k, k < i → k < l.length → getE tS l k ≠ getE tS l i := by
  unfold staysR MinS
  rw [Bool.and_eq_true, Bool.not_eq_true']
  have hh : hits l i l.length 0 = false ↔ ∀ k, k < l.length → hitR l i k = false := by
    constructor
    · intro h k hk
      cases hq : hitR l i k with
      | false => rfl
      | true => rw [(hits_iff l i _ _).2 ⟨k, Nat.zero_le _, by omega, hq⟩] at h; cases h
    · intro h
      cases hq : hits l i l.length 0 with
      | false => rfl
      | true =>
        obtain ⟨j, _, h2, h3⟩ := (hits_iff l i _ _).1 hq
        rw [h j (by omega)] at h3; cases h3
  rw [hh]
  constructor
  · rintro ⟨h1, h2⟩
    refine ⟨⟨h1, fun r hr => ?_⟩, fun k hk hkl => ((hitR_false l i k).1 (h2 k hkl)).2 hk⟩
    obtain ⟨k, hk⟩ := List.getElem?_of_mem hr
    have hkl := (List.getElem?_eq_some_iff.1 hk).1
    have : getE tS l k = r := by have := getE_ok hkl; rw [hk] at this; injection this with this; exact this.symm
    have := ((hitR_false l i k).1 (h2 k hkl)).1
    rwa [‹getE tS l k = r›] at this
  · rintro ⟨⟨h1, h2⟩, h3⟩
    exact ⟨h1, fun k hk => (hitR_false l i k).2 ⟨h2 _ (get_mem hk), fun hki => h3 k hki hk⟩⟩
theorem leR_ok (l : List (El tS)) : ∀ (n i : Nat) (out : List (El tS)), i + n = l.length → out.Pairwise (fun x y => ltS x y = true) → (∀ x, x ∈ out ↔ ∃ k, k < i ∧ getE tS l k = x ∧ MinS l x) →
    (leR l n i out).Pairwise (fun x y => ltS x y = true) ∧ ∀ x, x ∈ leR l n i out ↔ x ∈ l ∧ MinS l x
  | 0, i, out, hi, h1, h2 => by
    refine ⟨h1, fun x => ?_⟩
    simp only [leR]
    rw [h2 x]
    constructor
    · rintro ⟨k, hk, rfl, hm⟩; exact ⟨get_mem (by omega), hm⟩
    · rintro ⟨hx, hm⟩
      obtain ⟨k, hk⟩ := List.getElem?_of_mem hx
      have hkl := (List.getElem?_eq_some_iff.1 hk).1
      exact ⟨k, by omega, by have := getE_ok hkl; rw [hk] at this; injection this with this; exact this.symm, hm⟩
  | n + 1, i, out, hi, h1, h2 => by
    simp only [leR]
    have hil : i < l.length := by omega
    split
    · rename_i hs
      obtain ⟨hm, hfirst⟩ := (staysR_iff l i).1 hs
      have hnot : ¬ getE tS l i ∈ out := fun h => by
        obtain ⟨k, hk, e, _⟩ := (h2 _).1 h
        exact hfirst k hk (by omega) e
      refine leR_ok l n (i + 1) _ (by omega) (ins_strict _ _ h1 hnot) fun x => ?_
      rw [ins_mem, h2 x]
      constructor
      · rintro (rfl | ⟨k, hk, e, hx⟩)
        · exact ⟨i, Nat.lt_succ_self i, rfl, hm⟩
        · exact ⟨k, by omega, e, hx⟩
      · rintro ⟨k, hk, e, hx⟩
        by_cases hki : k = i
        · subst hki; exact .inl e.symm
        · exact .inr ⟨k, by omega, e, hx⟩
    · rename_i hs
      refine leR_ok l n (i + 1) _ (by omega) h1 fun x => ?_
      rw [h2 x]
      constructor
      · rintro ⟨k, hk, e, hx⟩; exact ⟨k, by omega, e, hx⟩
      · rintro ⟨k, hk, e, hx⟩
        by_cases hki : k = i
        · subst hki
          have hno : ¬ ∀ j, j < k → j < l.length → getE tS l j ≠ getE tS l k := fun hall => hs ((staysR_iff l k).2 ⟨by rw [e]; exact hx, hall⟩)
          refine Classical.byContradiction fun hcon => hno fun j hj hjl hje => hcon ⟨j, hj, hje.trans e, hx⟩
        · exact ⟨k, by omega, e, hx⟩
theorem leastR_ok (l : List (El tS)) : (leastR l).Pairwise (fun x y => ltS x y = true) ∧ ∀ x, x ∈ leastR l ↔ x ∈ l ∧ MinS l x :=
  leR_ok l l.length 0 [] (by omega) List.Pairwise.nil fun x => by simp
theorem least_same (l : List (El tS)) : comp (leastL l) = leastR l :=
  strict_unique ltS ltS_irr ltS_tr _ _ (comp_strict _ (srtS_sorted _)) (leastR_ok l).1 fun x => by rw [comp_least_mem, (leastR_ok l).2 x]
theorem sameS_self (l : List (El tS)) : sameS l l = true := by
  unfold sameS
  rw [← sameG_all]
  have : ∀ l : List (El tS), sameG l l = true := by
    intro l
    induction l with
    | nil => rfl
    | cons x r ih => simp only [sameG, (eqS_iff x x).2 rfl, if_true]; exact ih
  simp [this]

/-! ### The order of ways -/
theorem leS_anti {a b : Sm} (h : leS a b = true) (h' : leS b a = true) : a = b := by
  obtain ⟨h1, h2, h3, h4, h5, h6, h7, h8⟩ := leS_in h
  obtain ⟨_, _, _, _, g5, g6, g7, g8⟩ := leS_in h'
  have o1 := sm_ok h1
  have o2 := sm_ok h2
  obtain ⟨f, t, k, n, a1, a2, a3⟩ := a
  obtain ⟨f', t', k', n', b1, b2, b3⟩ := b
  dsimp only at *
  have hk : k' = k := by omega
  subst hk h3 h4
  unfold sOK at o1 o2
  simp only [rwN, Sm.at] at *
  rcases (by omega : k' = 0 ∨ k' = 1 ∨ k' = 2 ∨ k' = 3) with rfl | rfl | rfl | rfl
  · simp at *; refine ⟨by omega, by omega, by omega, by omega⟩
  · simp at *; refine ⟨by omega, by omega, by omega, by omega⟩
  · simp at *; refine ⟨by omega, by omega, by omega, by omega⟩
  · simp at *; refine ⟨by omega, by omega, by omega, by omega⟩
theorem leS_trans {a b c : Sm} (h : leS a b = true) (h' : leS b c = true) : leS a c = true := by
  obtain ⟨h1, h2, h3, h4, h5, h6, h7, h8⟩ := leS_in h
  obtain ⟨g1, g2, g3, g4, g5, g6, g7, g8⟩ := leS_in h'
  exact leS_mk ⟨h1, g2, by omega, by omega, by omega, by omega, by omega, by omega⟩
theorem toS_inj {x y : El tS} (h : toS x = toS y) : x = y := by
  obtain ⟨a1, a2, a3, a4, a5, a6, a7, ⟨⟩⟩ := x
  obtain ⟨b1, b2, b3, b4, b5, b6, b7, ⟨⟩⟩ := y
  simpa [toS] using h
theorem filter_le {α : Type} (p p' : α → Bool) (h : ∀ x, p x = true → p' x = true) : ∀ l : List α, (l.filter p).length ≤ (l.filter p').length
  | [] => Nat.le_refl _
  | x :: l => by
    have ih := filter_le p p' h l
    rw [List.filter_cons, List.filter_cons]
    cases h1 : p x with
    | true => rw [h x h1]; simpa using ih
    | false =>
      cases p' x with
      | true => simp; omega
      | false => simpa using ih
theorem filter_lt {α : Type} (p p' : α → Bool) (h : ∀ x, p x = true → p' x = true) (s : α) (h1 : p s = false) (h2 : p' s = true) : ∀ l : List α, s ∈ l → (l.filter p).length < (l.filter p').length
  | [], hs => by cases hs
  | x :: l, hs => by
    have hle := filter_le p p' h l
    rw [List.filter_cons, List.filter_cons]
    rcases List.mem_cons.1 hs with rfl | hs
    · rw [h1, h2]; simp; omega
    · have ih := filter_lt p p' h s h1 h2 l hs
      cases h3 : p x with
      | true => rw [h x h3]; simpa using ih
      | false =>
        cases p' x with
        | true => simp; omega
        | false => simpa using ih
/-- What is right stands behind one of the least. -/
theorem min_below (l : List (El tS)) : ∀ (n : Nat) (s : El tS), s ∈ l → (toS s).ok = true → (l.filter fun r => leS (toS r) (toS s)).length ≤ n → ∃ m ∈ l, MinS l m ∧ leS (toS m) (toS s) = true
  | 0, s, hs, hok, hn => by
    have : s ∈ l.filter fun r => leS (toS r) (toS s) := List.mem_filter.2 ⟨hs, by rw [leS_self]; exact hok⟩
    rw [List.eq_nil_of_length_eq_zero (Nat.le_zero.1 hn)] at this; cases this
  | n + 1, s, hs, hok, hn => by
    by_cases hm : MinS l s
    · exact ⟨s, hs, hm, by rw [leS_self]; exact hok⟩
    · have : ∃ r ∈ l, r ≠ s ∧ leS (toS r) (toS s) = true := by
        refine Classical.byContradiction fun hcon => hm ⟨hok, fun r hr hne => ?_⟩
        cases hh : leS (toS r) (toS s) with
        | false => rfl
        | true => exact absurd ⟨r, hr, hne, hh⟩ hcon
      obtain ⟨r, hr, hne, hle⟩ := this
      have hrok := (leS_in hle).1
      have hsr : leS (toS s) (toS r) = false := by
        cases hh : leS (toS s) (toS r) with
        | false => rfl
        | true => exact absurd (toS_inj (leS_anti hle hh)) hne
      have hlt := filter_lt (fun q => leS (toS q) (toS r)) (fun q => leS (toS q) (toS s)) (fun q h => leS_trans h hle) s hsr (by rw [leS_self]; exact hok) l hs
      obtain ⟨m, h1, h2, h3⟩ := min_below l n r hr hrok (by omega)
      exact ⟨m, h1, h2, leS_trans h3 hle⟩
theorem least_again (l : List (El tS)) : comp (leastL (comp (leastL l))) = comp (leastL l) := by
  refine strict_unique ltS ltS_irr ltS_tr _ _ (comp_strict _ (srtS_sorted _)) (comp_strict _ (srtS_sorted _)) fun x => ?_
  rw [comp_least_mem]
  constructor
  · exact fun h => h.1
  · intro h
    refine ⟨h, ?_⟩
    obtain ⟨hx, hm⟩ := (comp_least_mem l x).1 h
    exact ⟨hm.1, fun r hr hne => hm.2 r ((comp_least_mem l r).1 hr).1 hne⟩
end Go.Proofs.Ythlkhjfilfdpiaa
