/- ENGINE 2, 5C: rows that grow, rows that are made. -/
import Derived.Test.YthlkhjfilfdpiaaF5B
import Derived.Deep.Upon
import Derived.Laws.MakeOwn
import Derived.Great.BuildSlice
namespace Go.Proofs.Ythlkhjfilfdpiaa.Eng
set_option linter.unusedVariables false
set_option linter.unusedSimpArgs false
open Go Go.RowKit

/-! ### What is found does not hang on what it is found for -/
theorem castK_nat {α β : Type} (f : α → β) {t t' : Ty} {l : List (El t)} {no : α} {K : List (El t') → α} : castK t t' l (f no) (fun l => f (K l)) = f (castK t t' l no K) := by
  unfold castK
  split
  · rename_i h _
    subst h
    rfl
  · rfl
theorem decK_nat {α β : Type} (f : α → β) {no : α} : ∀ (t : Ty) (l : AV) (K : Bool → El t → α), decK t l (f no) (fun q x => f (K q x)) = f (decK t l no K)
  | .nil, l, K => by cases l <;> rfl
  | .int k r, l, K => by
    cases l with
    | cons h m =>
      cases h with
      | v z =>
        cases z with
        | int k' n =>
          simp only [decK]
          split
          · exact decK_nat f r m fun q x => K q (n, x)
          · rfl
        | _ => rfl
      | _ => rfl
    | _ => rfl
  | .bool r, l, K => by
    cases l with
    | cons h m =>
      cases h with
      | v z =>
        cases z with
        | bool n => exact decK_nat f r m fun q x => K q (n, x)
        | _ => rfl
      | _ => rfl
    | _ => rfl
  | .str r, l, K => by
    cases l with
    | cons h m =>
      cases h with
      | v z =>
        cases z with
        | string n => exact decK_nat f r m fun q x => K q (n, x)
        | _ => rfl
      | _ => rfl
    | _ => rfl
  | .sl a r, l, K => by
    cases l with
    | cons h m =>
      cases h with
      | rl q t l =>
        simp only [decK]
        rw [← castK_nat f]
        congr 1
        funext l
        exact decK_nat f r m fun q' x => K (q && q') (l, x)
      | rc q t l =>
        simp only [decK]
        rw [← castK_nat f]
        congr 1
        funext l
        exact decK_nat f r m fun q' x => K (q && q') (l, x)
      | em => exact decK_nat f r m fun q x => K q ([], x)
      | v z =>
        cases z with
        | slice A n cp =>
          cases A with
          | none =>
            simp only [decK]
            cases Nat.beq n 0 with
            | false => rfl
            | true => exact decK_nat f r m fun q x => K q ([], x)
          | some ad => rfl
        | _ => rfl
      | _ => rfl
    | _ => rfl
theorem decN_nat {α β : Type} (f : α → β) {no : α} (t : Ty) : ∀ (n : Nat) (l : AV) (K : Bool → List (El t) → α), decN t n l (f no) (fun q x => f (K q x)) = f (decN t n l no K)
  | 0, l, K => rfl
  | n + 1, l, K => by
    unfold decN
    split
    · rename_i a b _ _
      rw [← decK_nat f]
      congr 1
      funext q x
      exact decN_nat f t n b fun q' r => K (q && q') (x :: r)
    · rfl
/-- It, told once. -/
def decO (t : Ty) (n : Nat) (l : AV) : Option (Bool × List (El t)) := decN t n l none fun q x => some (q, x)
theorem decN_eq {α : Type} (t : Ty) (n : Nat) (l : AV) (no : α) (K : Bool → List (El t) → α) : decN t n l no K = (match decO t n l with | some p => K p.1 p.2 | none => no) := by
  have := decN_nat (fun r : Option (Bool × List (El t)) => match r with | some p => K p.1 p.2 | none => no) (no := none) t n l fun q x => some (q, x)
  exact this
theorem decO_ok {c : Cx} {t : Ty} {n : Nat} {l : AV} {vs : List Value} (hs : sat l c vs) {q : Bool} {xs : List (El t)} (h : decO t n l = some (q, xs)) : xs.length = n ∧ n * tsz t ≤ vs.length ∧ ∀ j y, xs[j]? = some y → memE c.w c.O (qb q c.b0) t y ((vs.drop (j * tsz t)).take (tsz t)) := by
  refine decN_ok (c := c) (P := fun r : Option (Bool × List (El t)) => r = some (q, xs) → _) (no := none) (fun h => by cases h) t n l vs (fun q x => some (q, x)) hs (fun q' xs' h1 h2 h3 e => ?_) h
  injection e with e
  injection e with e1 e2
  subst e1 e2
  exact ⟨h1, h2, h3⟩

/-- Elements in flat cells. -/
def flatC (c : Cx) (b : Nat) (t : Ty) (l : List (El t)) (news : List Value) : Prop :=
  news.length = l.length * tsz t ∧ ∀ j y, l[j]? = some y → memE c.w c.O b t y ((news.drop (j * tsz t)).take (tsz t))

theorem flatC_ones {c : Cx} {b : Nat} {t : Ty} {l : List (El t)} {news : List Value} (h : flatC c b t l news) : ∀ u ∈ news, u.oneCell' = true := by
  intro u hu
  obtain ⟨p, hp⟩ := List.getElem?_of_mem hu
  have hpl : p < news.length := (List.getElem?_eq_some_iff.1 hp).1
  rw [h.1] at hpl
  have hsz : 0 < tsz t := by
    rcases Nat.eq_zero_or_pos (tsz t) with h0 | h0
    · rw [h0, Nat.mul_zero] at hpl; omega
    · exact h0
  have hj : p / tsz t < l.length := by rw [Nat.div_lt_iff_lt_mul hsz]; exact hpl
  have hm := h.2 (p / tsz t) _ (List.getElem?_eq_getElem hj)
  refine (memE_len t _ _ hm).2 u ?_
  have hmod := Nat.mod_lt p hsz
  have hdiv := Nat.div_add_mod p (tsz t)
  rw [Nat.mul_comm] at hdiv
  refine List.mem_of_getElem? (i := p % tsz t) ?_
  rw [List.getElem?_take, if_pos hmod, List.getElem?_drop, hdiv]
  exact hp

theorem flatC_app {c : Cx} {b b' b'' : Nat} {t : Ty} {l l' : List (El t)} {xs news : List Value} (h : flatC c b t l xs) (h' : flatC c b' t l' news) (hb : b'' ≤ b) (hb' : b'' ≤ b') : flatC c b'' t (l ++ l') (xs ++ news) := by
  refine ⟨by simp [h.1, h'.1, Nat.add_mul], fun j y hj => ?_⟩
  by_cases hjl : j < l.length
  · rw [List.getElem?_append_left hjl] at hj
    have hm : (j + 1) * tsz t ≤ l.length * tsz t := Nat.mul_le_mul_right _ hjl
    rw [Nat.add_mul] at hm
    rw [List.drop_append_of_le_length (by rw [h.1]; omega), List.take_append_of_le_length (by simp [h.1]; omega)]
    exact memE_q hb (h.2 j y hj)
  · rw [List.getElem?_append_right (by omega)] at hj
    have hm : l.length * tsz t ≤ j * tsz t := Nat.mul_le_mul_right _ (by omega)
    have hd : (xs ++ news).drop (j * tsz t) = news.drop ((j - l.length) * tsz t) := by
      rw [List.drop_append, List.drop_eq_nil_of_le (by rw [h.1]; exact hm), List.nil_append, h.1, ← Nat.sub_mul]
    rw [hd]
    exact memE_q hb' (h'.2 _ y hj)

theorem flatC_keeps {c c' : Cx} {b b' : Nat} (k : Keeps c.w c.O b c'.w c'.O b') {t : Ty} {l : List (El t)} {news : List Value} (h : flatC c b t l news) : flatC c' b' t l news :=
  ⟨h.1, fun j y hj => memE_keeps k t y _ (h.2 j y hj)⟩

/-- Elements one behind the other in memory: their cells. -/
theorem memL_flat {c : Cx} {b : Nat} {t : Ty} {A : Option Addr} {l : List (El t)} (h : memL c.w c.O b (tsz t) (memE c.w c.O b t) A l) :
    ∃ news, flatC c b t l news ∧ (l ≠ [] → ∃ ad, A = some ad ∧ ∀ j u, news[j]? = some u → c.w.cell? (ad.add j) = some u) := by
  have key : ∀ n, n ≤ l.length → ∃ news : List Value, news.length = n * tsz t ∧ (∀ j y, j < n → l[j]? = some y → memE c.w c.O b t y ((news.drop (j * tsz t)).take (tsz t))) ∧ ∀ ad, A = some ad → ∀ j u, news[j]? = some u → c.w.cell? (ad.add j) = some u := by
    intro n
    induction n with
    | zero => exact fun _ => ⟨[], by simp, fun j y hj => absurd hj (Nat.not_lt_zero _), fun _ _ j u hu => by simp at hu⟩
    | succ n ih =>
      intro hn
      obtain ⟨news, h1, h2, h3⟩ := ih (by omega)
      obtain ⟨ad, hA, hsp, hO, hlt, hb0, cs, hc, hr, hE⟩ := h n _ (List.getElem?_eq_getElem (by omega))
      refine ⟨news ++ cs, by simp [h1, hc, Nat.add_mul], fun j y hj hy => ?_, fun ad' hA' j u hu => ?_⟩
      · by_cases hjn : j < n
        · have hm : (j + 1) * tsz t ≤ n * tsz t := Nat.mul_le_mul_right _ hjn
          rw [Nat.add_mul] at hm
          rw [List.drop_append_of_le_length (by rw [h1]; omega), List.take_append_of_le_length (by simp [h1]; omega)]
          exact h2 j y hjn hy
        · have hje : j = n := by omega
          subst hje
          rw [← h1, List.drop_left, ← hc, List.take_length]
          have : y = l[j]'(by omega) := by rw [List.getElem?_eq_getElem (by omega)] at hy; injection hy with hy; exact hy.symm
          rw [this]; exact hE
      · rw [hA] at hA'; injection hA' with hA'; subst hA'
        by_cases hjl : j < news.length
        · rw [List.getElem?_append_left hjl] at hu; exact h3 ad hA j u hu
        · rw [List.getElem?_append_right (by omega)] at hu
          have := hr _ u hu
          obtain ⟨bb, p, sp⟩ := ad
          simp only at hsp; subst hsp
          rw [Addr.add_mid]
          rw [show p + j = p + n * tsz t + (j - news.length) by omega]
          exact this
  obtain ⟨news, h1, h2, h3⟩ := key l.length (Nat.le_refl _)
  refine ⟨news, ⟨h1, fun j y hj => h2 j y (List.getElem?_eq_some_iff.1 hj).1 hj⟩, fun hne => ?_⟩
  obtain ⟨ad, hA, _⟩ := h 0 _ (List.getElem?_eq_getElem (List.length_pos_iff.2 hne))
  exact ⟨ad, hA, h3 ad hA⟩

/-- A value that is a list of elements. -/
def SrcV (c : Cx) (v : Value) (q : Bool) (t : Ty) (l : List (El t)) : Prop :=
  ∃ A m news, v = .slice A l.length m ∧ flatC c (qb q c.b0) t l news ∧ (l ≠ [] → ∃ ad, A = some ad ∧ ∀ j u, news[j]? = some u → c.w.cell? (ad.add j) = some u)

section
variable {P : Program} {E : Env} {W0 : World} {X : Bd} {N : Nat} {c : Cx} {fr : Fr} {hp : List AO} {nx : Nat} {a : Act} {o : Oper} {ρ : Operand → AV}

theorem SrcV.src {v : Value} {q : Bool} {t : Ty} {l : List (El t)} (h : SrcV c v q t l) {tx e' : TypeId} (hk : P.underlying tx = some (.slice e')) : ∃ news, flatC c (qb q c.b0) t l news ∧ Src P (tsz t) tx v l.length news c.w ∧ ((l = [] ∧ ∃ m, v = .slice none 0 m) ∨ ∃ ad m, v = .slice (some ad) l.length m ∧ ∀ j u, news[j]? = some u → c.w.cell? (ad.add j) = some u) := by
  obtain ⟨A, m, news, rfl, hf, hc⟩ := h
  refine ⟨news, hf, ?_⟩
  cases A with
  | none =>
    have hl : l = [] := Classical.byContradiction fun hne => by obtain ⟨ad, e, _⟩ := hc hne; cases e
    subst hl
    have : news = [] := List.eq_nil_of_length_eq_zero (by simpa using hf.1)
    subst this
    exact ⟨Src.ofNil c.w hk m, .inl ⟨rfl, m, rfl⟩⟩
  | some ad =>
    have hcell : ∀ j u, news[j]? = some u → c.w.cell? (ad.add j) = some u := by
      by_cases hl : l = []
      · subst hl
        have : news = [] := List.eq_nil_of_length_eq_zero (by simpa using hf.1)
        subst this
        intro j u hu; simp at hu
      · obtain ⟨ad', e, h⟩ := hc hl
        injection e with e; subst e; exact h
    exact ⟨Src.ofSlice c.w hk ad l.length m news hf.1 hcell (flatC_ones hf), .inr ⟨ad, m, rfl, hcell⟩⟩

theorem SrcV.cut {v : Value} {q : Bool} {t : Ty} {l : List (El t)} {A A' : Option Addr} {m m' lo n : Nat} (h : SrcV c v q t l) (hv : v = .slice A l.length m) (hlo : lo + n ≤ l.length) (hA : 0 < n → A' = A.map (·.add (lo * tsz t))) (hat : 0 < l.length → ∃ b, A = some ⟨b, 0, none⟩) : SrcV c (.slice A' n m') q t ((l.drop lo).take n) := by
  obtain ⟨A0, m0, news, e, hf, hc⟩ := h
  rw [hv] at e
  injection e with e _ _
  subst e
  have hlen : ((l.drop lo).take n).length = n := by simp; omega
  have hm : (lo + n) * tsz t ≤ l.length * tsz t := Nat.mul_le_mul_right _ hlo
  rw [Nat.add_mul] at hm
  refine ⟨A', m', (news.drop (lo * tsz t)).take (n * tsz t), by rw [hlen], ⟨?_, fun j y hj => ?_⟩, fun hne => ?_⟩
  · rw [hlen]; simp [hf.1]; omega
  · have hjn : j < n := by
      have := (List.getElem?_eq_some_iff.1 hj).1
      rw [hlen] at this; exact this
    rw [List.getElem?_take, if_pos hjn, List.getElem?_drop] at hj
    have hm2 : (j + 1) * tsz t ≤ n * tsz t := Nat.mul_le_mul_right _ hjn
    rw [Nat.add_mul] at hm2
    rw [List.drop_take, List.take_take, Nat.min_eq_left (by omega), List.drop_drop, show lo * tsz t + j * tsz t = (lo + j) * tsz t by rw [Nat.add_mul]]
    exact hf.2 _ y hj
  · have hn : 0 < n := by rcases Nat.eq_zero_or_pos n with h0 | h0; subst h0; simp at hne; exact h0
    obtain ⟨b, rfl⟩ := hat (by omega)
    refine ⟨⟨b, lo * tsz t, none⟩, by rw [hA hn]; simp [Addr.add_mid], fun j u hu => ?_⟩
    obtain ⟨ad, e, hcc⟩ := hc (by intro e; subst e; simp at hlo; omega)
    injection e with e; subst e
    rw [List.getElem?_take] at hu
    split at hu
    · rw [List.getElem?_drop] at hu
      have := hcc _ u hu
      rw [Addr.add_mid] at this ⊢
      rw [Nat.zero_add] at this
      exact this
    · cases hu

theorem row_src {j : Nat} {q : Bool} {t : Ty} {e : TypeId} {l : List (El t)} (h : rowAt c j q t e l) : SrcV c (c.val j) q t l ∧ ∃ A m, c.val j = .slice A l.length m := by
  obtain ⟨h0, h1, hq, xs, h2, h3, h4⟩ := h
  rcases h3 with ⟨e1, A, e2, e3⟩ | ⟨g, cap, cur, e1, e2, e3, e4, e5, e6, e7⟩
  · subst e1
    exact ⟨⟨A, 0, xs, by rw [e2]; rfl, ⟨h2, h4⟩, fun h => absurd rfl h⟩, A, 0, e2⟩
  · refine ⟨⟨_, cap, xs, e1, ⟨h2, h4⟩, fun _ => ⟨_, rfl, fun p u hu => ?_⟩⟩, _, _, e1⟩
    rw [Addr.add_mid, Nat.zero_add]
    rw [← e7, List.getElem?_take] at hu
    split at hu
    · rw [e3.cell]; simpa using hu
    · cases hu
theorem rl_src {q : Bool} {t : Ty} {l : List (El t)} {v : Value} (h : sat (.rl q t l) c [v]) : SrcV c v q t l := by
  obtain ⟨A, m, e, hm, hL⟩ := h
  obtain ⟨news, hf, hc⟩ := memL_flat hL
  exact ⟨A, m, news, by simpa using e, hf, hc⟩
theorem SrcV.keeps {c' : Cx} {v : Value} {q : Bool} {t : Ty} {l : List (El t)} (st : Step c c') (hw : c'.w = c.w) (h : SrcV c v q t l) : SrcV c' v q t l := by
  obtain ⟨A, m, news, e, hf, hc⟩ := h
  exact ⟨A, m, news, e, flatC_keeps (st.keeps id) hf, by rw [hw]; exact hc⟩

/-- What the rows in a source become. -/
abbrev Fz (c c1 : Cx) (hp : List AO) (ows : List Nat) : Prop :=
  Step c c1 ∧ c1.w = c.w ∧ ∀ i ∈ ows, ∀ q t l, ((∃ e, getAO hp i = .row q t e l) ∨ getAO hp i = .fz q t l) → i < c.n → sat (.rl q t l) c1 [c.val i]

theorem srcK_ok {α : Type} {PP : α → Prop} (h : Gam W0 X N c fr hp nx a) {x : AV} {vx : Value} (hs : sat x c [vx]) (t : Ty) {no : α} (hno : PP no) {K : Bool → List (El t) → List Nat → α}
    (hK : ∀ q l ows, (∀ c1, Fz c c1 hp ows → SrcV c1 vx q t l) → PP (K q l ows)) : PP (srcK hp t x no K) := by
  unfold srcK
  split
  · refine castK_ok hno fun e => ?_
    subst e
    exact hK _ _ _ fun c1 ⟨st, hw, _⟩ => (rl_src hs).keeps st hw
  · rename_i q t' l
    refine castK_ok hno fun e => ?_
    subst e
    obtain ⟨A, e, hL⟩ := hs
    exact hK _ _ _ fun c1 ⟨st, hw, _⟩ => (rl_src (q := q) (t := t') (l := l) ⟨A, _, e, Nat.le_refl _, hL⟩).keeps st hw
  · rename_i j k n
    obtain ⟨hj, hn, e, _⟩ := hs
    have e' : vx = c.val j := by simpa using e
    split
    · rename_i q t' te l hg
      refine castK_ok hno fun e => ?_
      subst e
      have hrow : rowAt c j q t' te l := h.o j _ (getAO_at hg (by simp))
      exact hK _ _ _ fun c1 ⟨st, hw, _⟩ => by rw [e']; exact (row_src hrow).1.keeps st hw
    · rename_i q t' l hg
      refine castK_ok hno fun e => ?_
      subst e
      have hfz : osat (.fz q t' l) c j := h.o j _ (getAO_at hg (by simp))
      exact hK _ _ _ fun c1 ⟨st, hw, _⟩ => by rw [e']; exact (rl_src hfz.2.2.1).keeps st hw
    · exact hno
  · rename_i j k lo n
    obtain ⟨hj, hn, A, m, A', hv, hm, hA', e⟩ := hs
    have e' : vx = .slice A' n (m - lo) := by simpa using e
    have hat : ∀ n m, c.val j = .slice A n m → 0 < n → ∃ b, A = some ⟨b, 0, none⟩ := fun n m h => c.at0 j A n m h
    split
    · rename_i q t' te l hg
      cases hk : Nat.beq (tsz t') k with
      | false => exact hno
      | true =>
        have := Nat.eq_of_beq_eq_true hk
        subst this
        simp only [cond_true]
        refine castK_ok hno fun e => ?_
        subst e
        have hrow : rowAt c j q t' te l := h.o j _ (getAO_at hg (by simp))
        have hl := hrow.2.1
        show PP (K q ((l.drop lo).take n) [])
        refine hK _ _ _ fun c1 ⟨st, hw, _⟩ => ?_
        rw [e']
        exact SrcV.cut ((row_src hrow).1.keeps st hw) (by rw [hv, hl]) (by omega) hA' (fun hp => hat _ _ hv (by omega))
    · rename_i q t' l hg
      cases hk : Nat.beq (tsz t') k with
      | false => exact hno
      | true =>
        have := Nat.eq_of_beq_eq_true hk
        subst this
        simp only [cond_true]
        refine castK_ok hno fun e => ?_
        subst e
        have hfz : osat (.fz q t' l) c j := h.o j _ (getAO_at hg (by simp))
        have hl := hfz.2.1
        show PP (K q ((l.drop lo).take n) [])
        refine hK _ _ _ fun c1 ⟨st, hw, _⟩ => ?_
        rw [e']
        exact SrcV.cut ((rl_src hfz.2.2.1).keeps st hw) (by rw [hv, hl]) (by omega) hA' (fun hp => hat _ _ hv (by omega))
    · exact hno
  · rename_i n m
    cases hn : Nat.beq n 0 with
    | false => exact hno
    | true =>
      have := Nat.eq_of_beq_eq_true hn
      subst this
      have e' : vx = .slice none 0 m := by simpa [sat] using hs
      exact hK _ _ _ fun c1 _ => ⟨none, m, [], by rw [e']; rfl, ⟨by simp, fun j y hj => by simp at hj⟩, fun hne => absurd rfl hne⟩
  · obtain ⟨A, e⟩ := hs
    have e' : vx = .slice A 0 0 := by simpa using e
    exact hK _ _ _ fun c1 _ => ⟨A, 0, [], by rw [e']; rfl, ⟨by simp, fun j y hj => by simp at hj⟩, fun hne => absurd rfl hne⟩
  · rename_i i o n m te
    obtain ⟨hi, b, hl, e⟩ := hs
    have e' : vx = .slice (some ⟨b, o, none⟩) n m := by simpa using e
    split
    · rename_i cc hg
      split
      · rename_i p hp'
        obtain ⟨b', cs, ty, hl', hk, hh, hsc⟩ := h.o i _ (getAO_at hg (by simp))
        rw [hl] at hl'; injection hl' with hl'; subst hl'
        obtain ⟨hle, hsp⟩ := part_ok cc o _ hp' hsc
        rw [decN_eq]
        split
        · rename_i pr hpr
          obtain ⟨q, xs⟩ := pr
          refine hK q xs (owsOf p) fun c1 ⟨st, hw, hf⟩ => ?_
          have hsu := unow_ok h.ob st p (owsOf p) (fun i hi => hi) hf hsp
          obtain ⟨hx1, hx2, hx3⟩ := decO_ok hsu hpr
          refine ⟨some ⟨b, o, none⟩, m, (cs.toList.drop o).take (n * tsz t), by rw [e', hx1], ⟨?_, hx3⟩, fun _ => ⟨_, rfl, fun j u hu => ?_⟩⟩
          · rw [hx1]; simp at hx2 ⊢; omega
          · rw [hw, Addr.add_mid]
            rw [List.getElem?_take] at hu
            split at hu
            · simp [World.cell?, hh]
              simpa [List.getElem?_drop] using hu
            · cases hu
        · exact hno
      · exact hno
    · exact hno
  · exact hno
end
end Go.Proofs.Ythlkhjfilfdpiaa.Eng
