/- ENGINE 2, 5E: callees that are handed own objects, or look at them. -/
import Derived.Test.YthlkhjfilfdpiaaF5D
namespace Go.Proofs.Ythlkhjfilfdpiaa.Eng
set_option linter.unusedVariables false
set_option linter.unusedSimpArgs false
open Go Go.RowKit

theorem idx_at : ∀ (π : List Nat) (i j : Nat), idx π i = some j → π[j]? = some i
  | [], _, _, h => by cases h
  | x :: r, i, j, h => by
    simp only [idx] at h
    cases hx : Nat.beq x i with
    | true =>
      rw [hx] at h
      simp only [cond_true, Option.some.injEq] at h
      subst h
      have := Nat.eq_of_beq_eq_true hx
      simp [this]
    | false =>
      rw [hx] at h
      simp only [cond_false] at h
      cases hr : idx r i with
      | none => simp [hr] at h
      | some k =>
        simp only [hr, Option.some.injEq] at h
        subst h
        simpa using idx_at r i k hr
theorem idx_none : ∀ (π : List Nat) (i : Nat), idx π i = none → ¬ i ∈ π
  | [], _, _, h => by cases h
  | x :: r, i, h, hm => by
    simp only [idx] at h
    cases hx : Nat.beq x i with
    | true => simp [hx] at h
    | false =>
      simp only [hx, cond_false] at h
      cases hr : idx r i with
      | some k => simp [hr] at h
      | none =>
        rcases List.mem_cons.1 hm with rfl | hm
        · simp at hx
        · exact idx_none r i hr hm
theorem idx_of : ∀ (π : List Nat) (i j : Nat), π.Nodup → π[j]? = some i → idx π i = some j
  | [], _, _, _, h => by simp at h
  | x :: r, i, 0, hn, h => by
    have : x = i := by simpa using h
    subst this
    simp [idx]
  | x :: r, i, j + 1, hn, h => by
    have hr : r[j]? = some i := by simpa using h
    have hne : x ≠ i := fun e => by
      have := (List.nodup_cons.1 hn).1
      exact this (e ▸ List.mem_of_getElem? hr)
    simp only [idx, beq_ne hne, cond_false, idx_of r i j (List.nodup_cons.1 hn).2 hr]
theorem renI_lt : ∀ (π : List Nat) (base j i : Nat), π[j]? = some i → renI π base j = i
  | [], _, _, _, h => by simp at h
  | x :: r, base, 0, i, h => by simpa [renI] using h
  | x :: r, base, j + 1, i, h => by simpa [renI] using renI_lt r base j i (by simpa using h)
theorem renI_ge : ∀ (π : List Nat) (base j : Nat), π.length ≤ j → renI π base j = base + (j - π.length)
  | [], _, _, _ => rfl
  | x :: r, base, 0, h => by simp at h
  | x :: r, base, j + 1, h => by
    simp only [renI]
    rw [renI_ge r base j (by simpa using h)]
    simp
theorem hasN_iff : ∀ (l : List Nat) (i : Nat), hasN l i = true ↔ i ∈ l
  | [], i => by simp [hasN]
  | x :: r, i => by
    simp only [hasN, Bool.or_eq_true, List.mem_cons, hasN_iff r i]
    constructor
    · rintro (h | h)
      · exact .inl (Nat.eq_of_beq_eq_true h).symm
      · exact .inr h
    · rintro (h | h)
      · subst h; exact .inl (by simp)
      · exact .inr h
theorem reach_nodup (hp : List AO) : ∀ (d : Nat) (todo acc : List Nat), acc.Nodup → (reach hp d todo acc).Nodup
  | 0, todo, acc, h => by cases todo <;> exact h
  | d + 1, [], acc, h => h
  | d + 1, i :: r, acc, h => by
    simp only [reach]
    cases hi : hasN acc i with
    | true => exact reach_nodup hp d r acc h
    | false =>
      simp only [cond_false]
      refine reach_nodup hp d _ _ (List.nodup_append.2 ⟨h, by simp, fun x hx y hy => ?_⟩)
      have : y = i := by simpa using hy
      subst this
      intro e; subst e
      rw [← hasN_iff] at hx
      rw [hx] at hi; cases hi

/-- The part of a context that is handed on. -/
def Cx.pull (c : Cx) (π : List Nat) : Cx :=
  ⟨c.w, fun j => (π[j]?).bind c.key, fun j => (π[j]?).bind c.loc, fun j => match π[j]? with | some i => c.val i | none => .bool false, fun j => match π[j]? with | some i => c.len i | none => 0, π.length, c.O, c.b0,
    fun j => by split; exact c.one _; rfl, fun j A n m h => by
      split at h
      · exact c.at0 _ A n m h
      · cases h⟩
theorem pull_val {c : Cx} {π : List Nat} {j i : Nat} (h : π[j]? = some i) : (c.pull π).val j = c.val i ∧ (c.pull π).len j = c.len i ∧ (c.pull π).key j = c.key i ∧ (c.pull π).loc j = c.loc i := by
  unfold Cx.pull
  simp [h]

/-- What is known of a value, told by places among those that are handed on. -/
theorem abs_ok {c : Cx} {π : List Nat} : ∀ (v : AV) {v' : AV} {vs : List Value}, absA π v = some v' → sat v c vs → sat v' (c.pull π) vs
  | .u, v', _, h, hs => by simp only [absA, Option.some.injEq] at h; subst h; exact hs
  | .v x, v', _, h, hs => by simp only [absA, Option.some.injEq] at h; subst h; exact hs
  | .nil, v', _, h, hs => by simp only [absA, Option.some.injEq] at h; subst h; exact hs
  | .em, v', _, h, hs => by simp only [absA, Option.some.injEq] at h; subst h; exact hs
  | .cons a b, v', _, h, ⟨x, r, e, h1, h2⟩ => by
    simp only [absA] at h
    split at h
    · rename_i a' b' ha hb
      injection h with h; subst h
      exact ⟨x, r, e, abs_ok a ha h1, abs_ok b hb h2⟩
    · cases h
  | .agg l, v', _, h, ⟨cs, e, h1⟩ => by
    simp only [absA] at h
    split at h
    · rename_i l' hl
      injection h with h; subst h
      exact ⟨cs, e, abs_ok l hl h1⟩
    · cases h
  | .tup l, v', _, h, ⟨cs, e, h1⟩ => by
    simp only [absA] at h
    split at h
    · rename_i l' hl
      injection h with h; subst h
      exact ⟨cs, e, abs_ok l hl h1⟩
    · cases h
  | .fn f l, v', _, h, ⟨cs, e, h1⟩ => by
    simp only [absA] at h
    split at h
    · rename_i l' hl
      injection h with h; subst h
      exact ⟨cs, e, abs_ok l hl h1⟩
    · cases h
  | .gd b x, v', _, h, ⟨y, e, h1, h2⟩ => by
    simp only [absA] at h
    split at h
    · rename_i x' hx
      injection h with h; subst h
      exact ⟨y, e, fun hb => abs_ok x hx (h1 hb), h2⟩
    · cases h
  | .ptr i o, v', _, h, ⟨hi, b, hb, e⟩ => by
    simp only [absA] at h
    split at h
    · rename_i j hj
      injection h with h; subst h
      have hp := idx_at π i j hj
      exact ⟨(List.getElem?_eq_some_iff.1 hp).1, b, by rw [(pull_val hp).2.2.2]; exact hb, e⟩
    · cases h
  | .sc i o n m t, v', _, h, ⟨hi, b, hb, e⟩ => by
    simp only [absA] at h
    split at h
    · rename_i j hj
      injection h with h; subst h
      have hp := idx_at π i j hj
      exact ⟨(List.getElem?_eq_some_iff.1 hp).1, b, by rw [(pull_val hp).2.2.2]; exact hb, e⟩
    · cases h
  | .rl q t l, v', _, h, hs => by simp only [absA, Option.some.injEq] at h; subst h; exact hs
  | .rc q t l, v', _, h, hs => by simp only [absA, Option.some.injEq] at h; subst h; exact hs
  | .rp k e o, v', _, h, ⟨b, q, hv, hO, hb, hc⟩ => by
    simp only [absA, Option.some.injEq] at h; subst h
    refine ⟨b, q, hv, hO, hb, fun j hj => ?_⟩
    obtain ⟨x, hx, hs⟩ := hc j hj
    refine ⟨x, hx, sat_step (c := c.bare) (c' := (c.pull π).bare) (e j) ⟨Nat.le_refl _, fun _ _ h => absurd h (Nat.not_lt_zero _), fun _ h => absurd h (Nat.not_lt_zero _), fun _ h _ => h, Nat.le_refl _, fun _ _ _ => rfl, Nat.le_refl _⟩ hs⟩
  | .ow i k n, v', _, h, ⟨hi, hn, e, A, m, hv, hm⟩ => by
    simp only [absA] at h
    split at h
    · rename_i j hj
      injection h with h; subst h
      have hp := idx_at π i j hj
      have q := pull_val (c := c) hp
      exact ⟨(List.getElem?_eq_some_iff.1 hp).1, by rw [q.2.1]; exact hn, by rw [q.1]; exact e, A, m, by rw [q.1]; exact hv, hm⟩
    · cases h
  | .ws i k lo n, v', _, h, ⟨hi, hn, A, m, A', hv, hm, hA, e⟩ => by
    simp only [absA] at h
    split at h
    · rename_i j hj
      injection h with h; subst h
      have hp := idx_at π i j hj
      have q := pull_val (c := c) hp
      exact ⟨(List.getElem?_eq_some_iff.1 hp).1, by rw [q.2.1]; exact hn, A, m, A', by rw [q.1, q.2.1]; exact hv, by rw [q.2.1]; exact hm, hA, e⟩
    · cases h
  | .op i k x o, v', _, h, ⟨hi, hx, b, hb, e⟩ => by
    simp only [absA] at h
    split at h
    · rename_i j hj
      injection h with h; subst h
      have hp := idx_at π i j hj
      have q := pull_val (c := c) hp
      exact ⟨(List.getElem?_eq_some_iff.1 hp).1, by rw [q.2.1]; exact hx, b, by rw [q.1]; exact hb, e⟩
    · cases h

theorem pull_step {c : Cx} {π : List Nat} : Keeps c.w c.O 0 (c.pull π).w (c.pull π).O 0 := ⟨fun _ h _ _ => h, Nat.le_refl _, fun _ _ _ _ => rfl, fun _ _ _ h => h⟩

/-- An object that is handed on. -/
theorem absO_ok {c : Cx} {π : List Nat} {o o' : AO} {i j : Nat} (hp : π[j]? = some i) (h : absO π o = some o') (hs : osat o c i) : osat o' (c.pull π) j := by
  have q := pull_val (c := c) hp
  cases o with
  | cells l =>
    simp only [absO] at h
    split at h
    · rename_i l' hl
      injection h with h; subst h
      obtain ⟨b, cs, t, h1, h2, h3, h4⟩ := hs
      exact ⟨b, cs, t, by rw [q.2.2.2]; exact h1, by rw [q.2.2.1]; exact h2, h3, abs_ok l hl h4⟩
    · cases h
  | row qq t e l =>
    simp only [absO, Option.some.injEq] at h; subst h
    obtain ⟨h0, h1, hq, xs, h2, h3, h4⟩ := hs
    refine ⟨h0, by rw [q.2.1]; exact h1, fun hqt g hg => hq hqt g (by rw [← q.2.2.1]; exact hg), xs, h2, ?_, h4⟩
    rcases h3 with ⟨e1, A, e2, e3⟩ | ⟨g, cap, cur, e1, e2, e3⟩
    · exact .inl ⟨e1, A, by rw [q.1]; exact e2, by rw [q.2.2.1]; exact e3⟩
    · exact .inr ⟨g, cap, cur, by rw [q.1]; exact e1, by rw [q.2.2.1]; exact e2, e3⟩
  | fz qq t l =>
    simp only [absO, Option.some.injEq] at h; subst h
    obtain ⟨h1, h2, h3, h4⟩ := hs
    exact ⟨by rw [q.2.2.1]; exact h1, by rw [q.2.1]; exact h2, by rw [q.1]; exact h3, by rw [q.1]; exact h4⟩
  | dead => simp [absO] at h
  | void => simp [absO] at h

theorem lentOf_ok {π0 : List Nat} {hp : List AO} : ∀ (l : List Nat) {ls : List AO}, lentOf π0 hp l = some ls → ls.length = l.length ∧ ∀ (j i : Nat), l[j]? = some i → ∃ o, ls[j]? = some o ∧ absO π0 (getAO hp i) = some o
  | [], ls, h => by
    injection h with h; subst h
    exact ⟨rfl, fun j i h => by simp at h⟩
  | i :: r, ls, h => by
    simp only [lentOf] at h
    split at h
    · rename_i o l ho hl
      injection h with h; subst h
      obtain ⟨h1, h2⟩ := lentOf_ok r hl
      refine ⟨by simp [h1], fun j k hj => ?_⟩
      cases j with
      | zero =>
        have : i = k := by simpa using hj
        subst this
        exact ⟨o, rfl, ho⟩
      | succ j => exact h2 j k (by simpa using hj)
    · cases h

theorem updAll_get : ∀ (π : List Nat) (l hp : List AO), π.Nodup → l.length = π.length → (updAll hp π l).length = hp.length ∧ (∀ i : Nat, ¬ i ∈ π → (updAll hp π l)[i]? = hp[i]?) ∧ ∀ (j i : Nat) (o : AO), π[j]? = some i → l[j]? = some o → i < hp.length → (updAll hp π l)[i]? = some o
  | [], l, hp, _, _ => by
    have e : updAll hp [] l = hp := by cases l <;> rfl
    rw [e]
    exact ⟨rfl, fun _ _ => rfl, fun j i o h => by simp at h⟩
  | x :: r, [], hp, _, h => by simp at h
  | x :: r, o :: l, hp, hn, hl => by
    obtain ⟨h1, h2, h3⟩ := updAll_get r l (setAO hp x o) (List.nodup_cons.1 hn).2 (by simpa using hl)
    have e : updAll hp (x :: r) (o :: l) = updAll (setAO hp x o) r l := rfl
    rw [e]
    refine ⟨by rw [h1, setAO_eq]; simp, fun i hi => ?_, fun j i o' hj ho hlt => ?_⟩
    · simp at hi
      rw [h2 i hi.2, setAO_eq, List.getElem?_set_ne (fun e => hi.1 e.symm)]
    · cases j with
      | zero =>
        have hx : x = i := by simpa using hj
        have ho' : o = o' := by simpa using ho
        subst hx ho'
        rw [h2 x (List.nodup_cons.1 hn).1, setAO_eq]
        simp [hlt]
      | succ j => exact h3 j i o' (by simpa using hj) (by simpa using ho) (by rw [setAO_eq]; simpa using hlt)

/-- The context behind the call: one's own, with what the callee left of what it was handed, and what is new. -/
def Cx.merge (c c' : Cx) (π : List Nat) : Cx :=
  let σ : Nat → Option Nat := fun i => if i < c.n then idx π i else some (π.length + (i - c.n))
  ⟨c'.w, fun i => match σ i with | some j => c'.key j | none => c.key i, fun i => match σ i with | some j => c'.loc j | none => c.loc i, fun i => match σ i with | some j => c'.val j | none => c.val i, fun i => match σ i with | some j => c'.len j | none => c.len i,
    c.n + (c'.n - π.length), c'.O, c'.b0, fun i => by split; exact c'.one _; exact c.one _, fun i A n m h => by
      split at h
      · exact c'.at0 _ A n m h
      · exact c.at0 _ A n m h⟩
theorem merge_some {c c' : Cx} {π : List Nat} {i j : Nat} (h : (if i < c.n then idx π i else some (π.length + (i - c.n))) = some j) : (c.merge c' π).val i = c'.val j ∧ (c.merge c' π).len i = c'.len j ∧ (c.merge c' π).key i = c'.key j ∧ (c.merge c' π).loc i = c'.loc j := by
  unfold Cx.merge
  simp only [h]
  exact ⟨trivial, trivial, trivial, trivial⟩
theorem merge_none {c c' : Cx} {π : List Nat} {i : Nat} (h : (if i < c.n then idx π i else some (π.length + (i - c.n))) = none) : (c.merge c' π).val i = c.val i ∧ (c.merge c' π).len i = c.len i ∧ (c.merge c' π).key i = c.key i ∧ (c.merge c' π).loc i = c.loc i := by
  unfold Cx.merge
  simp only [h]
  exact ⟨trivial, trivial, trivial, trivial⟩

/-- From the callee's places back to one's own. -/
theorem ren_ok {c c' d : Cx} {f : Nat → Nat} (hw : d.w = c'.w) (hO : d.O = c'.O) (hb : d.b0 = c'.b0) (hf : ∀ j, j < c'.n → f j < d.n ∧ d.val (f j) = c'.val j ∧ d.len (f j) = c'.len j ∧ d.loc (f j) = c'.loc j) : ∀ (v : AV) {vs : List Value}, sat v c' vs → sat (renA f v) d vs
  | .u, _, h => h
  | .v _, _, h => h
  | .nil, _, h => h
  | .em, _, h => h
  | .cons a b, _, ⟨x, r, e, h1, h2⟩ => ⟨x, r, e, ren_ok (c := c) hw hO hb hf a h1, ren_ok (c := c) hw hO hb hf b h2⟩
  | .agg l, _, ⟨cs, e, h⟩ => ⟨cs, e, ren_ok (c := c) hw hO hb hf l h⟩
  | .tup l, _, ⟨cs, e, h⟩ => ⟨cs, e, ren_ok (c := c) hw hO hb hf l h⟩
  | .fn _ l, _, ⟨cs, e, h⟩ => ⟨cs, e, ren_ok (c := c) hw hO hb hf l h⟩
  | .gd _ x, _, ⟨y, e, h, h'⟩ => ⟨y, e, fun hb' => ren_ok (c := c) hw hO hb hf x (h hb'), h'⟩
  | .ptr i o, _, ⟨hi, b, hbb, e⟩ => ⟨(hf i hi).1, b, by rw [(hf i hi).2.2.2]; exact hbb, e⟩
  | .sc i o n m t, _, ⟨hi, b, hbb, e⟩ => ⟨(hf i hi).1, b, by rw [(hf i hi).2.2.2]; exact hbb, e⟩
  | .rl q t l, _, ⟨A, m, e, hm, h⟩ => ⟨A, m, e, hm, by rw [hw, hO, hb]; exact h⟩
  | .rc q t l, _, ⟨A, e, h⟩ => ⟨A, e, by rw [hw, hO, hb]; exact h⟩
  | .rp k g o, _, ⟨b, q, e, h1, h2, h3⟩ => ⟨b, q, e, by rw [hO]; exact h1, by rw [hw]; exact h2, fun j hj => by
      obtain ⟨x, hx, hs⟩ := h3 j hj
      exact ⟨x, by rw [hw]; exact hx, sat_step (c := c'.bare) (c' := d.bare) (g j) ⟨Nat.le_refl _, fun _ _ h => absurd h (Nat.not_lt_zero _), fun _ h => absurd h (Nat.not_lt_zero _), fun b h _ => by show ¬ d.O b; rw [hO]; exact h, by show c'.w.heap.size ≤ d.w.heap.size; rw [hw]; exact Nat.le_refl _, fun _ _ _ => by show d.w.heap[_]? = c'.w.heap[_]?; rw [hw], by show d.b0 ≤ c'.b0; rw [hb]; exact Nat.le_refl _⟩ hs⟩⟩
  | .ow i k n, _, ⟨hi, hn, e, A, m, hv, hm⟩ => ⟨(hf i hi).1, by rw [(hf i hi).2.2.1]; exact hn, by rw [(hf i hi).2.1]; exact e, A, m, by rw [(hf i hi).2.1]; exact hv, hm⟩
  | .ws i k lo n, _, ⟨hi, hn, A, m, A', hv, hm, hA, e⟩ => ⟨(hf i hi).1, by rw [(hf i hi).2.2.1]; exact hn, A, m, A', by rw [(hf i hi).2.1, (hf i hi).2.2.1]; exact hv, by rw [(hf i hi).2.2.1]; exact hm, hA, e⟩
  | .op i k x o, _, ⟨hi, hx, b, hbb, e⟩ => ⟨(hf i hi).1, by rw [(hf i hi).2.2.1]; exact hx, b, by rw [(hf i hi).2.1]; exact hbb, e⟩
theorem renO_ok {c c' d : Cx} {f : Nat → Nat} (hw : d.w = c'.w) (hO : d.O = c'.O) (hb : d.b0 = c'.b0) (hf : ∀ j, j < c'.n → f j < d.n ∧ d.val (f j) = c'.val j ∧ d.len (f j) = c'.len j ∧ d.loc (f j) = c'.loc j) {j : Nat} (hj : j < c'.n) (hk : d.key (f j) = c'.key j) {o : AO} (h : osat o c' j) : osat (renO f o) d (f j) := by
  obtain ⟨_, hv, hl, hloc⟩ := hf j hj
  cases o with
  | cells l =>
    obtain ⟨b, cs, t, h1, h2, h3, h4⟩ := h
    exact ⟨b, cs, t, by rw [hloc]; exact h1, by rw [hk]; exact h2, by rw [hw]; exact h3, ren_ok (c := c) hw hO hb hf l h4⟩
  | row qq t e l =>
    obtain ⟨h0, h1, hq, xs, h2, h3, h4⟩ := h
    refine ⟨h0, by rw [hl]; exact h1, fun hqt g hg => by rw [hb]; exact hq hqt g (by rw [← hk]; exact hg), xs, h2, ?_, by rw [hw, hO, hb]; exact h4⟩
    rcases h3 with ⟨e1, A, e2, e3⟩ | ⟨g, cap, cur, e1, e2, e3⟩
    · exact .inl ⟨e1, A, by rw [hv]; exact e2, by rw [hk]; exact e3⟩
    · exact .inr ⟨g, cap, cur, by rw [hv]; exact e1, by rw [hk]; exact e2, by rw [hw]; exact e3⟩
  | fz qq t l =>
    obtain ⟨h1, h2, ⟨A, m, e, hm, hL⟩, h4⟩ := h
    exact ⟨by rw [hk]; exact h1, by rw [hl]; exact h2, ⟨A, m, by rw [hv]; exact e, hm, by rw [hw, hO, hb]; exact hL⟩, by rw [hv]; exact h4⟩
  | dead => exact hk.trans h
  | void => exact ⟨hk.trans h.1, hloc.trans h.2.1, hv.trans h.2.2⟩

section
variable {P : Program} {E : Env} {W0 : World} {X : Bd} {N : Nat} {c : Cx} {fr : Fr} {hp : List AO} {nx : Nat} {a : Act} {o : Oper} {ρ : Operand → AV}

theorem Gam.called (h : Gam W0 X N c fr hp nx a) {π : List Nat} (hn : π.Nodup) (hlt : ∀ i ∈ π, i < c.n) {c' : Cx} {lent new : List AO} (hx : Ext (c.pull π) c') (hob : Obs c' (lent ++ new)) (hl : lent.length = π.length) :
    Gam W0 X N (c.merge c' π) fr (joinO (updAll hp π (mapO (renI π nx) lent)) (mapO (renI π nx) new)) (joinO (updAll hp π (mapO (renI π nx) lent)) (mapO (renI π nx) new)).length a ∧
    ∀ (v : AV) (vs : List Value), sat v c' vs → sat (renA (renI π nx) v) (c.merge c' π) vs := by
  have hnc := h.nc
  have hnx := nx_n h
  have hcn : c'.n = π.length + new.length := by rw [hob.nc]; simp [hl]
  have hcn2 : (c.merge c' π).n = c.n + new.length := by show c.n + (c'.n - π.length) = _; omega
  -- where the callee's j stands
  have hσ : ∀ j, j < c'.n → renI π nx j < (c.merge c' π).n ∧ (if renI π nx j < c.n then idx π (renI π nx j) else some (π.length + (renI π nx j - c.n))) = some j := by
    intro j hj
    by_cases hjm : j < π.length
    · have hp' : π[j]? = some (π[j]'hjm) := List.getElem?_eq_getElem hjm
      rw [renI_lt π nx j _ hp']
      have hi := hlt _ (List.getElem_mem hjm)
      exact ⟨by omega, by rw [if_pos hi]; exact idx_of π _ j hn hp'⟩
    · rw [renI_ge π nx j (by omega)]
      refine ⟨by omega, ?_⟩
      rw [if_neg (by omega)]
      congr 1; omega
  have hf : ∀ j, j < c'.n → renI π nx j < (c.merge c' π).n ∧ (c.merge c' π).val (renI π nx j) = c'.val j ∧ (c.merge c' π).len (renI π nx j) = c'.len j ∧ (c.merge c' π).loc (renI π nx j) = c'.loc j := fun j hj => by
    obtain ⟨h1, h2⟩ := hσ j hj
    have := merge_some (c' := c') h2
    exact ⟨h1, this.1, this.2.1, this.2.2.2⟩
  have hkey : ∀ j, j < c'.n → (c.merge c' π).key (renI π nx j) = c'.key j := fun j hj => (merge_some (c' := c') (hσ j hj).2).2.2.1
  -- what one's own i is
  have hcase : ∀ i, i < (c.merge c' π).n → (∃ j, j < c'.n ∧ renI π nx j = i) ∨ (i < c.n ∧ ¬ i ∈ π ∧ (if i < c.n then idx π i else some (π.length + (i - c.n))) = none) := by
    intro i hi
    by_cases hic : i < c.n
    · cases hx' : idx π i with
      | some j =>
        have hp' := idx_at π i j hx'
        exact .inl ⟨j, by have := (List.getElem?_eq_some_iff.1 hp').1; omega, renI_lt π nx j i hp'⟩
      | none => exact .inr ⟨hic, idx_none π i hx', by rw [if_pos hic]⟩
    · refine .inl ⟨π.length + (i - c.n), by omega, ?_⟩
      rw [renI_ge π nx _ (by omega)]; omega
  have hpk : ∀ j i, π[j]? = some i → (c.pull π).key j = c.key i := fun j i hj => (pull_val hj).2.2.1
  have hlentkey : ∀ b, (∃ i, i < (c.pull π).n ∧ (c.pull π).key i = some b) → ∃ i, i ∈ π ∧ c.key i = some b := by
    rintro b ⟨j, hj, hk⟩
    have hp' : π[j]? = some (π[j]'hj) := List.getElem?_eq_getElem hj
    rw [hpk j _ hp'] at hk
    exact ⟨_, List.getElem_mem hj, hk⟩
  have hnolent : ∀ i, i < c.n → ¬ i ∈ π → ∀ b, c.key i = some b → ∀ j, j < (c.pull π).n → (c.pull π).key j ≠ some b := fun i hi hni b hk j hj e => by
    obtain ⟨k, hk1, hk2⟩ := hlentkey b ⟨j, hj, e⟩
    exact hni (h.ob.dj i k b hi (hlt k hk1) hk hk2 ▸ hk1)
  have st : Step c (c.merge c' π) := by
    refine ⟨by omega, fun i b hi hloc => ?_, fun i hi hne => ?_, fun b hO hb h' => hO (hx.O1 b hb h'), hx.sz, fun b hO hb => hx.keep b hb (fun j hj e => ?_), Nat.le_of_eq hx.b0⟩
    · rcases hcase i (by omega) with ⟨j, hj, e⟩ | ⟨_, _, hnone⟩
      · subst e
        rw [(hf j hj).2.2.2]
        by_cases hjm : j < π.length
        · have hp' : π[j]? = some (renI π nx j) := by rw [renI_lt π nx j _ (List.getElem?_eq_getElem hjm)]; exact List.getElem?_eq_getElem hjm
          exact hx.loc j b hjm (by rw [(pull_val hp').2.2.2]; exact hloc)
        · rw [renI_ge π nx j (by omega)] at hi; omega
      · rw [(merge_none (c' := c') hnone).2.2.2]; exact hloc
    · rcases hcase i (by omega) with ⟨j, hj, e⟩ | ⟨_, _, hnone⟩
      · subst e
        rw [(hf j hj).2.1, (hf j hj).2.2.1]
        by_cases hjm : j < π.length
        · have hp' : π[j]? = some (renI π nx j) := by rw [renI_lt π nx j _ (List.getElem?_eq_getElem hjm)]; exact List.getElem?_eq_getElem hjm
          have q := pull_val (c := c) hp'
          have := hx.val j hjm (by rw [q.1]; exact hne)
          rw [q.1, q.2.1] at this
          exact this
        · rw [renI_ge π nx j (by omega)] at hi; omega
      · exact ⟨(merge_none (c' := c') hnone).1, (merge_none (c' := c') hnone).2.1⟩
    · obtain ⟨k, hk1, hk2⟩ := hlentkey b ⟨j, hj, e⟩
      exact hO (h.ob.kb k b (hlt k hk1) hk2).1
  have hren : ∀ (v : AV) (vs : List Value), sat v c' vs → sat (renA (renI π nx) v) (c.merge c' π) vs := fun v vs => ren_ok (c := c) (c' := c') (d := c.merge c' π) rfl rfl rfl hf v
  refine ⟨?_, hren⟩
  obtain ⟨u1, u2, u3⟩ := updAll_get π (mapO (renI π nx) lent) hp hn (by rw [mapO_eq]; simp [hl])
  -- the objects
  have hobj : ∀ i o, (joinO (updAll hp π (mapO (renI π nx) lent)) (mapO (renI π nx) new))[i]? = some o → (∃ j, j < c'.n ∧ renI π nx j = i ∧ ∃ o', (lent ++ new)[j]? = some o' ∧ o = renO (renI π nx) o') ∨ (i < c.n ∧ ¬ i ∈ π ∧ hp[i]? = some o ∧ (if i < c.n then idx π i else some (π.length + (i - c.n))) = none) := by
    intro i o ho
    rw [joinO_eq] at ho
    by_cases hic : i < c.n
    · rw [List.getElem?_append_left (by omega)] at ho
      rcases hcase i (by omega) with ⟨j, hj, e⟩ | ⟨_, hni, hnone⟩
      · have hjm : j < π.length := Classical.byContradiction fun hge => by rw [renI_ge π nx j (by omega)] at e; omega
        have hp' : π[j]? = some i := by rw [← e, renI_lt π nx j _ (List.getElem?_eq_getElem hjm)]; exact List.getElem?_eq_getElem hjm
        have hlj : lent[j]? = some (lent[j]'(by omega)) := List.getElem?_eq_getElem (by omega)
        have hmj : (mapO (renI π nx) lent)[j]? = some (renO (renI π nx) (lent[j]'(by omega))) := by rw [mapO_eq, List.getElem?_map, hlj]; rfl
        have := u3 j i _ hp' hmj (by omega)
        rw [this] at ho
        injection ho with ho
        exact .inl ⟨j, hj, e, _, by rw [List.getElem?_append_left (by omega)]; exact hlj, ho.symm⟩
      · rw [u2 i hni] at ho
        exact .inr ⟨hic, hni, ho, hnone⟩
    · rw [List.getElem?_append_right (by omega), mapO_eq, List.getElem?_map, Option.map_eq_some_iff] at ho
      obtain ⟨o', ho', e⟩ := ho
      have hil := (List.getElem?_eq_some_iff.1 ho').1
      refine .inl ⟨π.length + (i - c.n), by omega, by rw [renI_ge π nx _ (by omega)]; omega, o', ?_, e.symm⟩
      rw [List.getElem?_append_right (by omega), ← ho']
      congr 1; omega
  have hkeyin : ∀ i b, i < (c.merge c' π).n → (c.merge c' π).key i = some b → b < c.w.heap.size → ∃ k, k < c.n ∧ c.key k = some b := by
    intro i b hi hk hb
    rcases hcase i hi with ⟨j, hj, e⟩ | ⟨hic, _, hnone⟩
    · subst e
      rw [hkey j hj] at hk
      obtain ⟨j0, hj0, hk0⟩ := hx.key j b hj hk hb
      obtain ⟨k, hk1, hk2⟩ := hlentkey b ⟨j0, hj0, hk0⟩
      exact ⟨k, hlt k hk1, hk2⟩
    · rw [(merge_none (c' := c') hnone).2.2.1] at hk
      exact ⟨i, hic, hk⟩
  refine h.turn (hb0 := hx.b0) st ⟨?_, fun i o ho => ?_, fun i k b hi hk h1 h2 => ?_, fun i b hi hk => ?_, hob.ol, ?_⟩ (fun i b hi hk hb => ?_) (fun b hy => ?_) (fun b hO hb => ?_) hx.os hx.tp hx.ou (fun b hb hX => ?_) hx.dr
  · rw [hcn2, joinO_eq, List.length_append, u1, mapO_eq, List.length_map]; omega
  · rcases hobj i o ho with ⟨j, hj, e, o', ho', rfl⟩ | ⟨hic, hni, ho', hnone⟩
    · subst e
      exact renO_ok (c := c) (c' := c') (d := c.merge c' π) rfl rfl rfl hf hj (hkey j hj) (hob.o j o' ho')
    · have q := merge_none (c' := c') hnone
      refine osat_keep st hic q.2.2.1 (fun e => q.2.2.2.trans e) ⟨q.1, q.2.1⟩ (fun b hkb => ?_) (h.o i o ho')
      exact hx.keep b (h.ob.kb i b hic hkb).2 (hnolent i hic hni b hkb)
  · rcases hcase i hi with ⟨j, hj, e⟩ | ⟨hic, hni, hnone⟩ <;> rcases hcase k hk with ⟨j', hj', e'⟩ | ⟨hkc, hnk, hnone'⟩
    · subst e e'
      rw [hkey j hj] at h1
      rw [hkey j' hj'] at h2
      rw [hob.dj j j' b hj hj' h1 h2]
    · subst e
      rw [hkey j hj] at h1
      rw [(merge_none (c' := c') hnone').2.2.1] at h2
      have hb := (h.ob.kb k b hkc h2).2
      obtain ⟨j0, hj0, hk0⟩ := hx.key j b hj h1 hb
      exact absurd hk0 (hnolent k hkc hnk b h2 j0 hj0)
    · subst e'
      rw [hkey j' hj'] at h2
      rw [(merge_none (c' := c') hnone).2.2.1] at h1
      have hb := (h.ob.kb i b hic h1).2
      obtain ⟨j0, hj0, hk0⟩ := hx.key j' b hj' h2 hb
      exact absurd hk0 (hnolent i hic hni b h1 j0 hj0)
    · rw [(merge_none (c' := c') hnone).2.2.1] at h1
      rw [(merge_none (c' := c') hnone').2.2.1] at h2
      exact h.ob.dj i k b hic hkc h1 h2
  · rcases hcase i hi with ⟨j, hj, e⟩ | ⟨hic, hni, hnone⟩
    · subst e
      rw [hkey j hj] at hk
      exact hob.kb j b hj hk
    · rw [(merge_none (c' := c') hnone).2.2.1] at hk
      have := h.ob.kb i b hic hk
      exact ⟨hx.O2 b this.1 (hnolent i hic hni b hk), Nat.lt_of_lt_of_le this.2 hx.sz⟩
  · show c'.b0 ≤ c'.w.heap.size
    exact hob.bz
  · obtain ⟨k, hk1, hk2⟩ := hkeyin i b hi hk (by have := h.sz; omega)
    exact h.kx k b hk1 hk2 hb
  · refine hx.O2 b (h.oo b hy) (fun j hj e => ?_)
    obtain ⟨k, hk1, hk2⟩ := hlentkey b ⟨j, hj, e⟩
    exact (h.xy b hy).2 (h.kx k b (hlt k hk1) hk2 (h.xy b hy).1)
  · exact h.oz b (hx.O1 b (by have := h.sz; show b < c.w.heap.size; omega) hO) hb
  · refine hx.keep b (by have := h.sz; show b < c.w.heap.size; omega) (fun j hj e => ?_)
    obtain ⟨k, hk1, hk2⟩ := hlentkey b ⟨j, hj, e⟩
    exact hX (h.kx k b (hlt k hk1) hk2 hb)

/-! ### One's own, seen as what is only read -/
/-- The context of a callee that does nothing to what is one's own. -/
def Cx.seen (c : Cx) : Cx := { c with n := 0, O := fun b => c.O b ∧ ∀ i, i < c.n → c.key i ≠ some b, b0 := c.w.heap.size }
theorem seen_keeps (c : Cx) (b : Nat) : Keeps c.w c.O b c.seen.w c.seen.O 0 := ⟨fun _ h _ _ h' => h h'.1, Nat.le_refl _, fun _ _ _ _ => rfl, fun _ _ _ _ => Nat.zero_le _⟩

theorem rl_seen {q : Bool} {t : Ty} {l : List (El t)} {vs : List Value} (h : sat (.rl q t l) c vs) : sat (.rl false t l) c.seen vs := by
  obtain ⟨A, m, e, hm, hL⟩ := h
  exact ⟨A, m, e, hm, memR_keeps (seen_keeps c _) hL⟩
theorem src_seen {v : Value} {q : Bool} {t : Ty} {l : List (El t)} (h : memL c.w c.seen.O 0 (tsz t) (memE c.w c.seen.O 0 t) (match v with | .slice A _ _ => A | _ => none) l) {A : Option Addr} {m : Nat} (hv : v = .slice A l.length m) (hm : l.length ≤ m) : sat (.rl false t l) c.seen [v] := by
  subst hv
  exact ⟨A, m, rfl, hm, h⟩

theorem row_seen (h : Obs c hp) {j : Nat} {q : Bool} {t : Ty} {e : TypeId} {l : List (El t)} (hj : getAO hp j = .row q t e l) : sat (.rl false t l) c.seen [c.val j] := by
  have hj' := getAO_at hj (by simp)
  have hjn : j < c.n := by rw [h.nc]; exact (List.getElem?_eq_some_iff.1 hj').1
  have hrow : rowAt c j q t e l := h.o j _ hj'
  have hrow' : rowAt c j false t e l := by
    obtain ⟨h0, h1, hq, xs, h2, h3, h4⟩ := hrow
    exact ⟨h0, h1, (fun h => by cases h), xs, h2, h3, fun j y hy => memE_q (qb_mono (by simp) (Nat.le_refl _)) (h4 j y hy)⟩
  -- the same cells, in a context where its block is not shut
  obtain ⟨h0, h1, hq, xs, h2, h3, h4⟩ := hrow'
  rcases h3 with ⟨e1, A, e2, e3⟩ | ⟨g, cap, cur, e1, e2, e3, e4, e5, e6, e7⟩
  · subst e1
    exact ⟨A, 0, by rw [e2]; rfl, Nat.zero_le _, fun i y hy => by simp at hy⟩
  · refine ⟨some ⟨g, 0, none⟩, cap, by rw [e1], e4, fun i y hy => ⟨⟨g, 0, none⟩, rfl, rfl, fun h' => h'.2 j hjn e2, (h.kb j g hjn e2).2, Nat.zero_le _, (xs.drop (i * tsz t)).take (tsz t), ?_, ?_, memE_keeps (seen_keeps c _) t y _ (h4 i y hy)⟩⟩
    · have hi : i < l.length := (List.getElem?_eq_some_iff.1 hy).1
      have : (i + 1) * tsz t ≤ l.length * tsz t := Nat.mul_le_mul_right _ hi
      rw [Nat.add_mul] at this
      simp; omega
    · intro p v hp
      have hp' : xs[i * tsz t + p]? = some v := by
        rw [List.getElem?_take] at hp
        split at hp
        · simpa [List.getElem?_drop] using hp
        · cases hp
      rw [← e7, List.getElem?_take] at hp'
      split at hp'
      · show World.cell? c.w _ = _
        rw [Nat.zero_add, e3.cell]
        simpa using hp'
      · cases hp'

/-- A part of a list that is only read. -/
theorem rl_cut {q : Bool} {t : Ty} {l : List (El t)} {A A' : Option Addr} {n0 m m' lo n : Nat} (h : sat (.rl q t l) c [.slice A n0 m]) (hlo : lo + n ≤ l.length) (hm : n ≤ m') (hA : 0 < n → A' = A.map (·.add (lo * tsz t))) : sat (.rl q t ((l.drop lo).take n)) c [.slice A' n m'] := by
  obtain ⟨A0, m0, e, hm0, hL⟩ := h
  simp only [List.cons.injEq, Value.slice.injEq, and_true] at e
  obtain ⟨e1, e2, e3⟩ := e
  subst e1
  have hlen : ((l.drop lo).take n).length = n := by simp; omega
  refine ⟨A', m', by rw [hlen], by rw [hlen]; exact hm, fun p y hp => ?_⟩
  have hpn : p < n := by
    have := (List.getElem?_eq_some_iff.1 hp).1
    rw [hlen] at this; exact this
  rw [List.getElem?_take, if_pos hpn, List.getElem?_drop] at hp
  obtain ⟨ad, hAe, hsp, hO, hb, hb0, cs, hcl, hr, hE⟩ := hL _ y hp
  obtain ⟨b, p0, sp⟩ := ad
  simp only at hsp hO hb hr hb0
  subst hsp
  subst hAe
  refine ⟨⟨b, p0 + lo * tsz t, none⟩, by rw [hA (by omega)]; simp [Addr.add_mid], rfl, hO, hb, hb0, cs, hcl, ?_, hE⟩
  rw [show p0 + lo * tsz t + p * tsz t = p0 + (lo + p) * tsz t by rw [Nat.add_mul]; omega]
  exact hr

theorem wk_ok : ∀ (v : AV) {vs : List Value}, sat v c.bare vs → sat (wkA v) c.seen.bare vs
  | .u, _, h => h
  | .v _, _, h => h
  | .nil, _, h => h
  | .em, _, h => h
  | .cons a b, _, ⟨x, r, e, h1, h2⟩ => ⟨x, r, e, wk_ok a h1, wk_ok b h2⟩
  | .agg l, _, ⟨cs, e, h⟩ => ⟨cs, e, wk_ok l h⟩
  | .tup l, _, ⟨cs, e, h⟩ => ⟨cs, e, wk_ok l h⟩
  | .fn _ l, _, ⟨cs, e, h⟩ => ⟨cs, e, wk_ok l h⟩
  | .gd b x, _, ⟨y, e, h, h'⟩ => ⟨y, e, fun hb => wk_ok x (h hb), h'⟩
  | .ptr _ _, _, ⟨hi, _⟩ => absurd hi (Nat.not_lt_zero _)
  | .sc _ _ _ _ _, _, ⟨hi, _⟩ => absurd hi (Nat.not_lt_zero _)
  | .rl q t l, _, h => rl_seen (c := c) (q := q) (t := t) (l := l) h
  | .rc q t l, _, ⟨A, e, hL⟩ => ⟨A, e, memR_keeps (seen_keeps c _) hL⟩
  | .rp k e o, _, ⟨b, q, hv, hO, hb, hc⟩ => ⟨b, q, hv, fun h' => hO h'.1, hb, fun j hj => by
      obtain ⟨x, hx, hs⟩ := hc j hj
      exact ⟨x, hx, wk_ok (e j) hs⟩⟩
  | .ow _ _ _, _, ⟨hi, _⟩ => absurd hi (Nat.not_lt_zero _)
  | .ws _ _ _ _, _, ⟨hi, _⟩ => absurd hi (Nat.not_lt_zero _)
  | .op _ _ _ _, _, ⟨hi, _⟩ => absurd hi (Nat.not_lt_zero _)

theorem viewW_ok (h : Obs c hp) {Pf : Nat → Nat → AV} (hP : ∀ i o vs, shut (Pf i o) = true → sat (.ptr i o) c vs → sat (Pf i o) c.seen vs) : ∀ (v : AV) {vs : List Value}, shut (viewW Pf hp v) = true → sat v c vs → sat (viewW Pf hp v) c.seen vs
  | .u, _, hs, _ => by cases hs
  | .v _, _, _, h => h
  | .nil, _, _, h => h
  | .em, _, _, h => h
  | .cons a b, _, hs, ⟨x, r, e, h1, h2⟩ => by
    simp only [viewW, shut, Bool.and_eq_true] at hs
    exact ⟨x, r, e, viewW_ok h hP a hs.1 h1, viewW_ok h hP b hs.2 h2⟩
  | .agg l, _, hs, ⟨cs, e, h1⟩ => ⟨cs, e, viewW_ok h hP l hs h1⟩
  | .tup l, _, hs, ⟨cs, e, h1⟩ => ⟨cs, e, viewW_ok h hP l hs h1⟩
  | .fn _ l, _, hs, ⟨cs, e, h1⟩ => ⟨cs, e, viewW_ok h hP l hs h1⟩
  | .gd _ _, _, hs, _ => by cases hs
  | .ptr i o, _, hs, h1 => hP i o _ hs h1
  | .rl q t l, _, _, h1 => rl_seen h1
  | .rc q t l, _, _, ⟨A, e, hL⟩ => ⟨A, e, memR_keeps (seen_keeps c _) hL⟩
  | .rp k e o, _, _, ⟨b, q, hv, hO, hb, hc⟩ => ⟨b, q, hv, fun h' => hO h'.1, hb, fun j hj => by
      obtain ⟨x, hx, hs⟩ := hc j hj
      exact ⟨x, hx, wk_ok (e j) hs⟩⟩
  | .ow i k n, vs, hs, ⟨hi, hn, e, hv⟩ => by
    subst e
    simp only [viewW] at hs ⊢
    split
    · rename_i q t te l hg
      exact row_seen h hg
    · rename_i q t l hg
      have hfz : osat (.fz q t l) c i := h.o i _ (getAO_at hg (by simp))
      exact rl_seen hfz.2.2.1
    · rename_i h1 h2
      exfalso
      split at hs
      · rename_i q t te l hg; exact h1 _ _ _ _ hg
      · rename_i q t l hg; exact h2 _ _ _ hg
      · cases hs
  | .ws i k lo n, vs, hs, ⟨hi, hn, A, m, A', hv, hm, hA, e⟩ => by
    subst e
    simp only [viewW] at hs ⊢
    split
    · rename_i q t te l hg
      simp only [hg] at hs
      cases hk : Nat.beq (tsz t) k with
      | false => rw [hk] at hs; cases hs
      | true =>
        have := Nat.eq_of_beq_eq_true hk
        subst this
        have hrow := row_seen h hg
        have hl : l.length = c.len i := (h.o i _ (getAO_at hg (by simp)) : rowAt c i q t te l).2.1
        rw [hv] at hrow
        exact rl_cut hrow (by omega) (by omega) hA
    · rename_i q t l hg
      simp only [hg] at hs
      cases hk : Nat.beq (tsz t) k with
      | false => rw [hk] at hs; cases hs
      | true =>
        have := Nat.eq_of_beq_eq_true hk
        subst this
        have hfz : osat (.fz q t l) c i := h.o i _ (getAO_at hg (by simp))
        have hl : l.length = c.len i := hfz.2.1
        have hrow := rl_seen hfz.2.2.1
        rw [hv] at hrow
        exact rl_cut hrow (by omega) (by omega) hA
    · rename_i h1 h2
      exfalso
      split at hs
      · rename_i q t te l hg; exact h1 _ _ _ _ hg
      · rename_i q t l hg; exact h2 _ _ _ hg
      · cases hs
  | .sc i o n m t, vs, hs, ⟨hi, b, hb, e⟩ => by
    subst e
    simp only [viewW] at hs ⊢
    split
    · rename_i cc hg
      simp only [hg] at hs
      split
      · rename_i p hp'
        simp only [hp'] at hs
        cases hz : (Nat.blt 0 (tsz t) && Nat.ble n m) with
        | false => rw [hz] at hs; cases hs
        | true =>
          simp only [hz, cond_true] at hs ⊢
          rw [decN_eq] at hs ⊢
          split
          · rename_i pr hpr
            obtain ⟨q, xs⟩ := pr
            obtain ⟨b', cs, ty, hl', hk, hh, hsc⟩ := h.o i _ (getAO_at hg (by simp))
            rw [hb] at hl'; injection hl' with hl'; subst hl'
            obtain ⟨hle, hsp⟩ := part_ok cc o _ hp' hsc
            obtain ⟨hx1, hx2, hx3⟩ := decO_ok hsp hpr
            show sat (.rl false t xs) c.seen _
            refine ⟨some ⟨b, o, none⟩, _, by rw [hx1], ?_, fun j y hj => ⟨_, rfl, rfl, fun h' => h'.2 i hi hk, (h.kb i b hi hk).2, Nat.zero_le _, _, ?_, ?_, memE_keeps (seen_keeps c _) t y _ (hx3 j y hj)⟩⟩
            · simp only [Bool.and_eq_true] at hz
              rw [hx1]; exact Nat.le_of_ble_eq_true hz.2
            · have hjn : j < n := by rw [← hx1]; exact (List.getElem?_eq_some_iff.1 hj).1
              have : (j + 1) * tsz t ≤ n * tsz t := Nat.mul_le_mul_right _ hjn
              rw [Nat.add_mul] at this
              simp at hx2 hle ⊢; omega
            · intro p v hp
              have hp2 : ((cs.toList.drop o).take (n * tsz t))[j * tsz t + p]? = some v := by
                rw [List.getElem?_take] at hp
                split at hp
                · simpa [List.getElem?_drop] using hp
                · cases hp
              rw [List.getElem?_take] at hp2
              split at hp2
              · show World.cell? c.w _ = _
                simp [World.cell?, hh]
                rw [List.getElem?_drop] at hp2
                rw [Nat.add_assoc]
                simpa using hp2
              · cases hp2
          · rename_i hpr
            rw [hpr] at hs
            cases hs
      · rename_i hne
        exfalso
        split at hs
        · rename_i p hp'; first | exact hne p hp' | (rw [hne] at hp'; cases hp')
        · cases hs
    · rename_i hne
      exfalso
      split at hs
      · rename_i cc hg; exact hne cc hg
      · cases hs
  | .op _ _ _ _, _, hs, _ => by cases hs

theorem lenA_ok : ∀ (l : AV) {cs : List Value}, (∃ n, lenIs l n = true) → sat l c cs → lenA l = cs.length
  | .nil, cs, _, h => by
    have : cs = [] := h
    subst this; rfl
  | .cons a b, cs, ⟨n, hn⟩, ⟨x, r, e, _, h2⟩ => by
    subst e
    cases n with
    | zero => cases hn
    | succ n => simp [lenA, lenA_ok b ⟨n, hn⟩ h2]
  | .u, _, ⟨n, h⟩, _ => by cases n <;> cases h
  | .v _, _, ⟨n, h⟩, _ => by cases n <;> cases h
  | .agg _, _, ⟨n, h⟩, _ => by cases n <;> cases h
  | .tup _, _, ⟨n, h⟩, _ => by cases n <;> cases h
  | .fn _ _, _, ⟨n, h⟩, _ => by cases n <;> cases h
  | .gd _ _, _, ⟨n, h⟩, _ => by cases n <;> cases h
  | .ptr _ _, _, ⟨n, h⟩, _ => by cases n <;> cases h
  | .sc _ _ _ _ _, _, ⟨n, h⟩, _ => by cases n <;> cases h
  | .rl _ _ _, _, ⟨n, h⟩, _ => by cases n <;> cases h
  | .rc _ _ _, _, ⟨n, h⟩, _ => by cases n <;> cases h
  | .em, _, ⟨n, h⟩, _ => by cases n <;> cases h
  | .rp _ _ _, _, ⟨n, h⟩, _ => by cases n <;> cases h
  | .ow _ _ _, _, ⟨n, h⟩, _ => by cases n <;> cases h
  | .ws _ _ _ _, _, ⟨n, h⟩, _ => by cases n <;> cases h
  | .op _ _ _ _, _, ⟨n, h⟩, _ => by cases n <;> cases h

theorem lenIs_viewW {Pf : Nat → Nat → AV} : ∀ (l : AV) (n : Nat), lenIs l n = true → lenIs (viewW Pf hp l) n = true
  | .nil, 0, _ => rfl
  | .cons a b, n + 1, h => lenIs_viewW b n h
theorem lenIs_view : ∀ (d : Nat) (l : AV) (n : Nat), lenIs l n = true → lenIs (view hp d l) n = true
  | 0, l, n, h => lenIs_viewW l n h
  | d + 1, l, n, h => lenIs_viewW l n h

theorem view_ok (h : Obs c hp) : ∀ (d : Nat) (v : AV) {vs : List Value}, shut (view hp d v) = true → sat v c vs → sat (view hp d v) c.seen vs
  | 0, v, vs, hs, hv => viewW_ok h (fun i o vs hs _ => by cases hs) v hs hv
  | d + 1, v, vs, hs, hv => by
    refine viewW_ok h (fun i o vs hs hptr => ?_) v hs hv
    obtain ⟨hi, b, hb, e⟩ := hptr
    subst e
    split
    · rename_i l hg
      simp only [hg] at hs
      cases hc : (shut (view hp d l) && lenIs l (lenA l)) with
      | false => rw [hc] at hs; cases hs
      | true =>
        simp only [cond_true]
        simp only [Bool.and_eq_true] at hc
        obtain ⟨b', cs, ty, hl', hk, hh, hsc⟩ := h.o i _ (getAO_at hg (by simp))
        rw [hb] at hl'; injection hl' with hl'; subst hl'
        have hin := view_ok h d l hc.1 hsc
        have hlen := lenA_ok l ⟨_, hc.2⟩ hsc
        refine ⟨b, 0, by simp, fun h' => h'.2 i hi hk, (h.kb i b hi hk).2, fun j hj => ?_⟩
        have hjc : cs.toList[j]? = some (cs.toList[j]'(by omega)) := List.getElem?_eq_getElem (by omega)
        refine ⟨_, ?_, nth_len (c := c.seen.bare) _ j hin ⟨_, lenIs_view d l _ hc.2⟩ hjc⟩
        show World.cell? c.w _ = _
        simp [World.cell?, hh]
    · rename_i hne
      exfalso
      split at hs
      · rename_i l hg; exact hne l hg
      · cases hs

theorem neat_ok {c' d : Cx} (hw : d.w = c'.w) (hn : c'.n = 0) (hb : d.b0 ≤ c'.b0) (hO : ∀ b, c'.b0 ≤ b → ¬ d.O b) : ∀ (v : AV) {vs : List Value}, neat v = true → sat v c' vs → sat v d vs
  | .v _, _, _, h => h
  | .nil, _, _, h => h
  | .cons a b, _, hs, ⟨x, r, e, h1, h2⟩ => by
    simp only [neat, Bool.and_eq_true] at hs
    exact ⟨x, r, e, neat_ok hw hn hb hO a hs.1 h1, neat_ok hw hn hb hO b hs.2 h2⟩
  | .agg l, _, hs, ⟨cs, e, h1⟩ => ⟨cs, e, neat_ok hw hn hb hO l hs h1⟩
  | .tup l, _, hs, ⟨cs, e, h1⟩ => ⟨cs, e, neat_ok hw hn hb hO l hs h1⟩
  | .fn _ l, _, hs, ⟨cs, e, h1⟩ => ⟨cs, e, neat_ok hw hn hb hO l hs h1⟩
  | .rl q t l, _, hs, ⟨A, m, e, hm, hL⟩ => by
    have hq : q = true := hs
    subst hq
    exact ⟨A, m, e, hm, memR_keeps ⟨fun k _ _ h' => hO k h', by rw [hw]; exact Nat.le_refl _, fun _ _ _ _ => by rw [hw], fun k _ _ h' => Nat.le_trans hb h'⟩ hL⟩
  | .u, _, hs, _ => by cases hs
  | .em, _, hs, _ => by cases hs
  | .gd _ _, _, hs, _ => by cases hs
  | .ptr _ _, _, hs, _ => by cases hs
  | .sc _ _ _ _ _, _, hs, _ => by cases hs
  | .rc _ _ _, _, hs, _ => by cases hs
  | .rp _ _ _, _, hs, _ => by cases hs
  | .ow _ _ _, _, hs, _ => by cases hs
  | .ws _ _ _ _, _, hs, _ => by cases hs
  | .op _ _ _ _, _, hs, _ => by cases hs

theorem shut_bare : ∀ (v : AV) {vs : List Value}, shut v = true → sat v c vs → sat v c.bare vs
  | .v _, _, _, h => h
  | .nil, _, _, h => h
  | .em, _, _, h => h
  | .cons a b, _, hs, ⟨x, r, e, h1, h2⟩ => by
    simp only [shut, Bool.and_eq_true] at hs
    exact ⟨x, r, e, shut_bare a hs.1 h1, shut_bare b hs.2 h2⟩
  | .agg l, _, hs, ⟨cs, e, h1⟩ => ⟨cs, e, shut_bare l hs h1⟩
  | .tup l, _, hs, ⟨cs, e, h1⟩ => ⟨cs, e, shut_bare l hs h1⟩
  | .fn _ l, _, hs, ⟨cs, e, h1⟩ => ⟨cs, e, shut_bare l hs h1⟩
  | .rl q t l, _, _, h => h
  | .rc q t l, _, _, h => h
  | .rp k e o, _, _, h => h
  | .u, _, hs, _ => by cases hs
  | .gd _ _, _, hs, _ => by cases hs
  | .ptr _ _, _, hs, _ => by cases hs
  | .sc _ _ _ _ _, _, hs, _ => by cases hs
  | .ow _ _ _, _, hs, _ => by cases hs
  | .ws _ _ _ _, _, hs, _ => by cases hs
  | .op _ _ _ _, _, hs, _ => by cases hs

/-! ### Calls -/
theorem obs_none {c : Cx} (hn : c.n = 0) (ol : ∀ b, c.O b → b < c.w.heap.size) (bz : c.b0 ≤ c.w.heap.size) : Obs c [] :=
  ⟨hn, fun i o h => by simp at h, fun i j b hi => by omega, fun i b hi => by omega, ol, bz⟩
theorem ext_below {c c' : Cx} (h : Ext c c') (hn : c.n = 0) : BelowD c.w.heap.size c.w c'.w := ⟨⟨h.os, h.tp, h.ou, h.sz, fun b hb => h.keep b hb (fun i hi => by omega)⟩, h.dr⟩

theorem good_callR (hC : CallOk P E.call) (h : Gam W0 X N c fr hp nx a) {g : FuncId} {args : AV} {vs : Array Value} (hs : sat args c vs.toList) (hent : ∀ (hbody : ∃ fn : Func, P.funcs[g]? = some fn ∧ fn.body.isSome = true ∧ fn.name ≠ "runtime.NumGoroutine"), (execOp a.eval o).run P c.w = .ok (.enter g vs) c.w) :
    GoodR P W0 X N c fr hp nx a o (callR E hp nx g args) := by
  have viewCase : GoodR P W0 X N c fr hp nx a o (viewR E hp g (view hp 3 args)) := by
    unfold viewR
    cases hsh : shut (view hp 3 args) with
    | false => trivial
    | true =>
      simp only [cond_true]
      split
      · rename_i r hr
        split
        · rename_i hl hnw
          cases hne : neat r.res with
          | false => trivial
          | true =>
            simp only [cond_true]
            intro hpre
            have hsv := view_ok h.ob 3 args hsh hs
            obtain ⟨hbody, hcall⟩ := hC g _ [] r hr hpre c.seen vs hsv (obs_none rfl (fun b hb => h.ol b hb.1) (Nat.le_refl _))
            refine ⟨g, vs, hent hbody, hcall.mono fun e w' he => ?_⟩
            obtain ⟨x, c', rfl, rfl, hx, hob, _, hres⟩ := he
            rw [hl, hnw] at hob
            have hb0 : c'.b0 = c.w.heap.size := hx.b0
            have hbel := ext_below hx rfl
            refine ⟨x, rfl, hbel, neat_ok (c' := c') (d := c.to c'.w) rfl (by simpa using hob.nc) (by show c.b0 ≤ c'.b0; rw [hb0]; exact h.ob.bz) (fun b hb hO => ?_) r.res hne hres⟩
            have := h.ol b hO
            omega
        · trivial
      · trivial
  unfold callR
  cases hsh : shut args with
  | true =>
    simp only [cond_true]
    have hsb : sat args c.bare vs.toList := shut_bare args hsh hs
    split
    · rename_i r hr
      split
      · rename_i hl hnw
        intro hpre
        obtain ⟨hbody, hcall⟩ := hC g _ [] r hr hpre c.bare vs hsb (obs_none rfl h.ol h.ob.bz)
        refine ⟨g, vs, hent hbody, hcall.mono fun e w' he => ?_⟩
        obtain ⟨x, c', rfl, rfl, hx, hob, _, hres⟩ := he
        rw [hl, hnw] at hob
        have hn0 : c'.n = 0 := by simpa using hob.nc
        have hbel := ext_below hx rfl
        refine ⟨x, rfl, hbel, sat_step r.res (c := c') (c' := c.to c'.w) ⟨by omega, fun i b hi => by omega, fun i hi => by omega, fun b hO hb h' => hO (hx.O2 b h' (fun i hi => absurd hi (Nat.not_lt_zero _))), Nat.le_refl _, fun _ _ _ => rfl, by show c.b0 ≤ c'.b0; rw [hx.b0]; exact Nat.le_refl _⟩ hres⟩
      · rename_i nw hl hnw
        cases hfr : E.free g with
        | true => trivial
        | false =>
          simp only [cond_false]
          intro hpre
          have hsp : sat args (c.pull []) vs.toList := sat_step args (c := c.bare) (c' := c.pull []) ⟨Nat.le_refl _, fun i b hi => absurd hi (Nat.not_lt_zero _), fun i hi => absurd hi (Nat.not_lt_zero _), fun _ h _ => h, Nat.le_refl _, fun _ _ _ => rfl, Nat.le_refl _⟩ hsb
          obtain ⟨hbody, hcall⟩ := hC g _ [] r hr hpre (c.pull []) vs hsp (obs_none rfl h.ol h.ob.bz)
          refine ⟨g, vs, hent hbody, hcall.mono fun e w' he => ?_⟩
          obtain ⟨x, c', rfl, rfl, hx, hob, _, hres⟩ := he
          rw [hl] at hob
          obtain ⟨hG, hren⟩ := h.called (π := []) (lent := []) (by simp) (fun i hi => by cases hi) hx hob rfl
          exact ⟨x, c.merge c' _, rfl, rfl, hG, hren _ _ hres⟩
      · trivial
    · trivial
  | false =>
    simp only [cond_false]
    cases hfr : (E.free g || !live hp (reach hp 40 (refs args) [])) with
    | true => trivial
    | false =>
      simp only [cond_false]
      split
      · rename_i a' ls ha hls
        split
        · rename_i r hr
          cases hlen : Nat.beq (lenO r.lent) (lenO ls) with
          | false => trivial
          | true =>
            simp only [cond_true]
            intro hpre
            have hn := reach_nodup hp 40 (refs args) [] (by simp)
            obtain ⟨hl1, hl2⟩ := lentOf_ok _ hls
            have hlive : ∀ j i, (reach hp 40 (refs args) [])[j]? = some i → hp[i]? = some (getAO hp i) := fun j i hj => by
              obtain ⟨o', _, ho⟩ := hl2 j i hj
              exact getAO_at rfl (fun e => by rw [e] at ho; cases ho)
            have hlt : ∀ i ∈ reach hp 40 (refs args) [], i < c.n := fun i hi => by
              obtain ⟨j, hj⟩ := List.getElem?_of_mem hi
              rw [h.nc]
              exact (List.getElem?_eq_some_iff.1 (hlive j i hj)).1
            have hobl : Obs (c.pull (reach hp 40 (refs args) [])) ls := by
              refine ⟨hl1.symm, fun j o ho => ?_, fun j k b hj hk h1 h2 => ?_, fun j b hj hk => ?_, h.ol, h.ob.bz⟩
              · have hjl : j < (reach hp 40 (refs args) []).length := by rw [← hl1]; exact (List.getElem?_eq_some_iff.1 ho).1
                have hp' := List.getElem?_eq_getElem hjl
                obtain ⟨o', ho', habs⟩ := hl2 j _ hp'
                rw [ho] at ho'; injection ho' with ho'; subst ho'
                exact absO_ok hp' habs (h.o _ _ (hlive j _ hp'))
              · have hpj := List.getElem?_eq_getElem hj
                have hpk := List.getElem?_eq_getElem hk
                rw [(pull_val (c := c) hpj).2.2.1] at h1
                rw [(pull_val (c := c) hpk).2.2.1] at h2
                have := h.ob.dj _ _ b (hlt _ (List.getElem_mem hj)) (hlt _ (List.getElem_mem hk)) h1 h2
                have q1 := idx_of _ _ _ hn hpj
                have q2 := idx_of _ _ _ hn hpk
                rw [this, q2] at q1
                injection q1 with q1; exact q1.symm
              · have hpj := List.getElem?_eq_getElem hj
                rw [(pull_val (c := c) hpj).2.2.1] at hk
                exact h.ob.kb _ b (hlt _ (List.getElem_mem hj)) hk
            obtain ⟨hbody, hcall⟩ := hC g _ ls r hr hpre (c.pull (reach hp 40 (refs args) [])) vs (abs_ok args ha hs) hobl
            refine ⟨g, vs, hent hbody, hcall.mono fun e w' he => ?_⟩
            obtain ⟨x, c', rfl, rfl, hx, hob, hll, hres⟩ := he
            obtain ⟨hG, hren⟩ := h.called hn hlt hx hob (by rw [hll, hl1])
            exact ⟨x, c.merge c' _, rfl, rfl, hG, hren _ _ hres⟩
        · exact viewCase
      · exact viewCase

theorem good_call (hC : CallOk P E.call) (h : Gam W0 X N c fr hp nx a) (cl : Call) (hop : o.op = .call cl) (f : Operand) (hf : cl.callee = .value f) (g : FuncId) (cap : AV) (hg : sat (.fn g cap) c [a.eval f])
    (hx : ∀ p ∈ cl.args.toList, sat (ρ p) c [a.eval p]) : GoodR P W0 X N c fr hp nx a o (callR E hp nx g (appA (cl.args.toList.foldr (fun x l => .cons (ρ x) l) .nil) cap)) := by
  obtain ⟨cs, e, hcs⟩ := hg
  have e' : a.eval f = .func (.func g) #[] cs := by simpa using e
  refine good_callR hC h (vs := cl.args.map a.eval ++ cs) (by simpa using sat_app _ ⟨_, list_len _⟩ (sat_list _ hx) hcs) ?_
  rintro ⟨fn, hfn, hbody, hname⟩
  unfold execOp; rw [hop]
  have hb' : ¬ fn.body = none := by intro h; simp [h] at hbody
  simp [resolve, hf, e', Deferred.ofValue, invoke, callFunc, hfn, hname, hb', Sem.run_bind, program, Sem.run]

theorem good_callB (hT : ∀ t i, tyOf E.ty t = some i → TIok P t i) (h : Gam W0 X N c fr hp nx a) {cl : Call} (hop : o.op = .call cl) {b : Builtin} (hb : cl.callee = .builtin b) {l : AV} (hl : sat l c (cl.args.map a.eval).toList) :
    GoodR P W0 X N c fr hp nx a o (callB E hp nx b cl.argTypes.toList l) := by
  unfold callB
  split
  · rename_i k x k' y
    obtain ⟨v, q, e, h1, h2⟩ := args_two hl
    have e1 : v = .int k x := by simpa [sat] using h1
    have e2 : q = .int k' y := by simpa [sat] using h2
    refine ⟨_, ?_, rfl⟩
    refine run_builtin hop hb ?_
    rw [e, e1, e2]
    simp [builtin, Sem.run_bind, Builtin.min_, Builtin.min2]
  · rename_i k x k' y
    obtain ⟨v, q, e, h1, h2⟩ := args_two hl
    have e1 : v = .int k x := by simpa [sat] using h1
    have e2 : q = .int k' y := by simpa [sat] using h2
    refine ⟨_, ?_, rfl⟩
    refine run_builtin hop hb ?_
    rw [e, e1, e2]
    simp [builtin, Sem.run_bind, Builtin.max_, Builtin.max2]
  · rename_i t ts x hts
    split
    · rename_i i hi
      obtain ⟨v, e, h1⟩ := args_one hl
      exact good_len hop hb hts (hT t i hi) e h1
    · trivial
  · rename_i t ts x y hts
    split
    · rename_i i hi
      split
      · rename_i ie hie
        cases hk : Nat.beq i.kd 3 with
        | false => trivial
        | true =>
          obtain ⟨v, q, e, h1, h2⟩ := args_two hl
          exact good_copy h hop hb hts (hT t i hi) (Nat.eq_of_beq_eq_true hk) (hT _ _ hie) e h1 h2
      · trivial
    · trivial
  · rename_i t ts x hts
    split
    · rename_i i hi
      split
      · rename_i ie hie
        split
        · rename_i z hze
          cases hk : Nat.beq i.kd 3 with
          | false => trivial
          | true =>
            obtain ⟨v, e, h1⟩ := args_one hl
            exact good_clear h hop hb hts (hT t i hi) (Nat.eq_of_beq_eq_true hk) (hT _ _ hie) hze e h1
        · trivial
      · trivial
    · trivial
  · rename_i t t' x y hts
    split
    · rename_i i hi
      split
      · rename_i ie hie
        split
        · rename_i ro z hro hze
          cases hk : (Nat.beq i.kd 3 && Nat.blt 0 ie.sz && Nat.ble ie.by_ 100000) with
          | false => trivial
          | true =>
            simp only [Bool.and_eq_true] at hk
            have hk3 := Nat.eq_of_beq_eq_true hk.1.1
            have hsz : 0 < ie.sz := by simpa [Nat.blt_eq] using hk.1.2
            have hby := Nat.le_of_ble_eq_true hk.2
            obtain ⟨v, q, e, h1, h2⟩ := args_two hl
            simp only [cond_true]
            cases htt : Nat.beq t t' with
            | true =>
              have htt := Nat.eq_of_beq_eq_true htt
              subst htt
              exact good_append h hop hb hts (hT t i hi) hk3 (hT _ _ hie) hro hsz hby hze e h1 h2
            | false =>
              simp only [cond_false]
              split
              · rename_i it kx n hit
                split
                · rename_i hik
                  have hq : q = .int kx n := by simpa [sat] using h2
                  subst hq
                  exact good_appZ h hop hb hts (hT t i hi) hk3 (hT _ _ hie) (hT _ _ hit) hik hro hsz hby hze e h1
                · trivial
              · trivial
        · trivial
      · trivial
    · trivial
  · trivial
end
end Go.Proofs.Ythlkhjfilfdpiaa.Eng
