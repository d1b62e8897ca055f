/- ENGINE 2, 10: a region that draws; codes; functions. -/
import Derived.Test.YthlkhjfilfdpiaaF10B
namespace Go.Proofs.Ythlkhjfilfdpiaa.Eng
set_option linter.unusedVariables false
set_option linter.unusedSimpArgs false
open Go Go.RowKit

theorem count_set : ∀ (l : List Bool) (i : Nat), l[i]? = some false → (l.set i true).count false + 1 = l.count false
  | [], i, h => by simp at h
  | x :: r, 0, h => by
    have : x = false := by simpa using h
    subst this
    simp
  | x :: r, i + 1, h => by
    have ih := count_set r i (by simpa using h)
    simp only [List.set_cons_succ, List.count_cons]
    omega

section
variable {P : Program} {E : Env} {W0 : World} {X : Bd} {ops : List Oper} {V : Nat → AV} {F : Nat → Fr} {H : Nat → List AO} {M : Nat → Nat} {Qe : Exit → Act → World → Prop}

theorem Gam.congr {N : Nat} {c : Cx} {fr fr' : Fr} {hp : List AO} {nx : Nat} {a : Act} (h : Gam W0 X N c fr hp nx a) (he : ∀ t, look fr' t = look fr t) : Gam W0 X N c fr' hp nx a :=
  { h with f := fun i => by rw [he i]; exact h.f i }

theorem look_put (d : Nat) (v : AV) (fr : Fr) (t : Nat) : look ((d, v) :: fr) t = if d = t then v else look fr t := by
  show (bif Nat.beq d t then v else look fr t) = _
  by_cases h : d = t
  · subst h; simp
  · simp [beq_ne h, h]

theorem take_at {q i : Nat} (h : i < q) (hq : q ≤ ops.length) : (ops.take q)[i]? = some ops[i] := by
  rw [List.getElem?_take, if_pos h]; exact List.getElem?_eq_getElem (by omega)

section
variable {S : Nat → Nat} {D : Nat → List (Nat × AO)} {O : Nat → AO} {q : Nat}
/-- An operation that makes an object at a place of its own. -/
def NewAt (E : Env) (ops : List Oper) (q j : Nat) : Prop := j < q ∧ barrier (bef ops) (ops.map (hsen E)) j = false ∧ ∃ o, ops[j]? = some o ∧ isNew o = true

theorem seq_step (hql : q ≤ ops.length) (hs : Seq E ops (bef ops) (ops.map (hsen E)) 0 (ops.take q) V F H M S D O) {p : Nat} (hp : p < q) (hb : barrier (bef ops) (ops.map (hsen E)) p = false) : H (p + 1) = H p ∧ M (p + 1) = M p := by
  have hl : (ops.take q)[p]? = some (ops[p]'(by omega)) := take_at hp hql
  cases hn : isNew (ops[p]'(by omega)) with
  | true =>
    have := hs.nw p _ hl (by rw [Nat.zero_add]; exact hb) hn
    simp only [Nat.zero_add] at this
    exact ⟨this.1, this.2.1⟩
  | false =>
    have := hs.pu p _ hl (by rw [Nat.zero_add]; exact hb) hn
    simp only [Nat.zero_add] at this
    exact ⟨this.1, this.2.1⟩
theorem seq_const (hql : q ≤ ops.length) (hs : Seq E ops (bef ops) (ops.map (hsen E)) 0 (ops.take q) V F H M S D O) : ∀ (k p : Nat), p + k ≤ q → (∀ e, p ≤ e → e < p + k → barrier (bef ops) (ops.map (hsen E)) e = false) → H (p + k) = H p ∧ M (p + k) = M p
  | 0, p, _, _ => ⟨rfl, rfl⟩
  | k + 1, p, hle, hb => by
    have ih := seq_const hql hs k p (by omega) (fun e h1 h2 => hb e h1 (by omega))
    have := seq_step hql hs (p := p + k) (by omega) (hb (p + k) (by omega) (by omega))
    rw [show p + (k + 1) = p + k + 1 by omega]
    exact ⟨this.1.trans ih.1, this.2.trans ih.2⟩
theorem seq_same (hql : q ≤ ops.length) (hs : Seq E ops (bef ops) (ops.map (hsen E)) 0 (ops.take q) V F H M S D O) {r s : Nat} (hr : r ≤ q) (hsq : s ≤ q) (hiff : ∀ e, e < q → barrier (bef ops) (ops.map (hsen E)) e = true → (e < r ↔ e < s)) : H s = H r ∧ M s = M r := by
  have key : ∀ r s, r ≤ s → s ≤ q → (∀ e, e < q → barrier (bef ops) (ops.map (hsen E)) e = true → (e < r ↔ e < s)) → H s = H r ∧ M s = M r := by
    intro r s hrs hsq hiff
    have := seq_const hql hs (s - r) r (by omega) (fun e h1 h2 => by
      cases hb : barrier (bef ops) (ops.map (hsen E)) e with
      | false => rfl
      | true => have := (hiff e (by omega) hb).2 (by omega); omega)
    rwa [show r + (s - r) = s by omega] at this
  rcases Nat.le_total r s with h | h
  · exact key r s h hsq hiff
  · have := key s r h hr (fun e he hb => (hiff e he hb).symm)
    exact ⟨this.1.symm, this.2.symm⟩

theorem seq_S (hql : q ≤ ops.length) (hs : Seq E ops (bef ops) (ops.map (hsen E)) 0 (ops.take q) V F H M S D O) {p : Nat} (hp : p < q) : S p ≤ S (p + 1) ∧ (NewAt E ops q p → S (p + 1) = S p + 1) := by
  have hl : (ops.take q)[p]? = some (ops[p]'(by omega)) := take_at hp hql
  have hl' : ops[p]? = some (ops[p]'(by omega)) := List.getElem?_eq_getElem (by omega)
  cases hb : barrier (bef ops) (ops.map (hsen E)) p with
  | true =>
    have := hs.br p _ hl (by rw [Nat.zero_add]; exact hb)
    simp only [Nat.zero_add] at this
    exact ⟨Nat.le_of_eq this.1.symm, fun h => absurd (hb.symm.trans h.2.1) (by simp)⟩
  | false =>
    cases hn : isNew (ops[p]'(by omega)) with
    | true =>
      have := hs.nw p _ hl (by rw [Nat.zero_add]; exact hb) hn
      simp only [Nat.zero_add] at this
      exact ⟨by omega, fun _ => this.2.2.1⟩
    | false =>
      have := hs.pu p _ hl (by rw [Nat.zero_add]; exact hb) hn
      simp only [Nat.zero_add] at this
      refine ⟨by omega, fun h => ?_⟩
      obtain ⟨_, _, o, ho, hno⟩ := h
      rw [hl'] at ho; injection ho with ho
      rw [ho, hno] at hn; cases hn
theorem seq_Sle (hql : q ≤ ops.length) (hs : Seq E ops (bef ops) (ops.map (hsen E)) 0 (ops.take q) V F H M S D O) : ∀ (k p : Nat), p + k ≤ q → S p ≤ S (p + k)
  | 0, _, _ => Nat.le_refl _
  | k + 1, p, h => Nat.le_trans (seq_Sle hql hs k p (by omega)) (seq_S hql hs (p := p + k) (by omega)).1
theorem slot_lt (hql : q ≤ ops.length) (hs : Seq E ops (bef ops) (ops.map (hsen E)) 0 (ops.take q) V F H M S D O) {i j : Nat} (hi : NewAt E ops q i) (hij : i < j) (hj : j ≤ q) : S i < S j := by
  have h1 := (seq_S hql hs hi.1).2 hi
  have h2 := seq_Sle hql hs (j - (i + 1)) (i + 1) (by omega)
  rw [show i + 1 + (j - (i + 1)) = j by omega] at h2
  omega
theorem slot_ne (hql : q ≤ ops.length) (hs : Seq E ops (bef ops) (ops.map (hsen E)) 0 (ops.take q) V F H M S D O) {i j : Nat} (hi : NewAt E ops q i) (hj : NewAt E ops q j) (hij : i ≠ j) : S i ≠ S j := by
  rcases Nat.lt_or_gt_of_ne hij with h | h
  · have := slot_lt hql hs hi h (Nat.le_of_lt hj.1); omega
  · have := slot_lt hql hs hj h (Nat.le_of_lt hi.1); omega

theorem seq_new (hql : q ≤ ops.length) (hs : Seq E ops (bef ops) (ops.map (hsen E)) 0 (ops.take q) V F H M S D O) {j : Nat} {o : Oper} (hj : j < q) (hb : barrier (bef ops) (ops.map (hsen E)) j = false) (ho : ops[j]? = some o) (hn : isNew o = true) :
    H (j + 1) = H j ∧ M (j + 1) = M j ∧ S (j + 1) = S j + 1 ∧ D (j + 1) = D j ++ [(S j, O j)] ∧ getAO (H j) (S j) = .void ∧
    ∀ fr', Agree ops o (F j) fr' → obs fr' true o.op.operands.toList True ∧ evalOp E (opd fr') (H j) (S j) o.op = .new (V j) (O j) ∧ putK E.N fr' o.dst (V j) (fun fr => fr = putF o.dst (V j) fr') := by
  have hl : (ops.take q)[j]? = some o := by rw [List.getElem?_take, if_pos hj]; exact ho
  have := hs.nw j _ hl (by rw [Nat.zero_add]; exact hb) hn
  simp only [Nat.zero_add] at this
  exact this

/-- What is pending. -/
theorem seq_D (hql : q ≤ ops.length) (hs : Seq E ops (bef ops) (ops.map (hsen E)) 0 (ops.take q) V F H M S D O) (hD : D 0 = []) : ∀ (k : Nat), k ≤ q → ∀ x o, (x, o) ∈ D k ↔ ∃ j, NewAt E ops q j ∧ j < k ∧ (∀ e, j ≤ e → e < k → barrier (bef ops) (ops.map (hsen E)) e = false) ∧ x = S j ∧ o = O j
  | 0, _, x, o => by
    rw [hD]
    refine ⟨fun h => by simp at h, fun ⟨j, _, h, _⟩ => absurd h (Nat.not_lt_zero _)⟩
  | k + 1, hk, x, o => by
    have ih := seq_D hql hs hD k (by omega) x o
    have hl : (ops.take q)[k]? = some (ops[k]'(by omega)) := take_at (by omega) hql
    have hl' : ops[k]? = some (ops[k]'(by omega)) := List.getElem?_eq_getElem (by omega)
    cases hb : barrier (bef ops) (ops.map (hsen E)) k with
    | true =>
      have := hs.br k _ hl (by rw [Nat.zero_add]; exact hb)
      simp only [Nat.zero_add] at this
      rw [this.2.1]
      refine ⟨fun h => by simp at h, fun ⟨j, _, h1, h2, _⟩ => ?_⟩
      have := h2 k (by omega) (by omega)
      rw [hb] at this; cases this
    | false =>
      cases hn : isNew (ops[k]'(by omega)) with
      | true =>
        have := seq_new hql hs (by omega) hb hl' hn
        rw [this.2.2.2.1, List.mem_append, ih]
        constructor
        · rintro (⟨j, h1, h2, h3, h4⟩ | h)
          · exact ⟨j, h1, by omega, fun e he1 he2 => by
              by_cases hek : e = k
              · rw [hek]; exact hb
              · exact h3 e he1 (by omega), h4⟩
          · simp only [List.mem_singleton, Prod.mk.injEq] at h
            exact ⟨k, ⟨by omega, hb, _, hl', hn⟩, by omega, fun e he1 he2 => by rw [show e = k by omega]; exact hb, h⟩
        · rintro ⟨j, h1, h2, h3, h4, h5⟩
          by_cases hjk : j = k
          · subst hjk; exact .inr (by simp [h4, h5])
          · exact .inl ⟨j, h1, by omega, fun e he1 he2 => h3 e he1 (by omega), h4, h5⟩
      | false =>
        have := hs.pu k _ hl (by rw [Nat.zero_add]; exact hb) hn
        simp only [Nat.zero_add] at this
        rw [this.2.2.2.1, ih]
        constructor
        · rintro ⟨j, h1, h2, h3, h4⟩
          exact ⟨j, h1, by omega, fun e he1 he2 => by
              by_cases hek : e = k
              · rw [hek]; exact hb
              · exact h3 e he1 (by omega), h4⟩
        · rintro ⟨j, h1, h2, h3, h4⟩
          have hjk : j ≠ k := fun e => by
            subst e
            obtain ⟨_, _, o', ho', hno⟩ := h1
            rw [hl'] at ho'; injection ho' with ho'
            rw [ho', hno] at hn; cases hn
          exact ⟨j, h1, by omega, fun e he1 he2 => h3 e he1 (by omega), h4⟩
end

theorem flush_out : ∀ (pd : List (Nat × AO)) (hp : List AO) (x : Nat), (∀ o, (x, o) ∉ pd) → (flushL pd hp)[x]? = hp[x]?
  | [], hp, x, _ => rfl
  | (i, o) :: r, hp, x, h => by
    have hix : i ≠ x := fun e => h o (by rw [e]; simp)
    rw [flushL, flush_out r _ x (fun o' ho' => h o' (by simp [ho'])), List.getElem?_set_ne hix]
theorem flush_len : ∀ (pd : List (Nat × AO)) (hp : List AO), (flushL pd hp).length = hp.length
  | [], _ => rfl
  | (i, o) :: r, hp => by rw [flushL, flush_len r]; simp
theorem flush_in : ∀ (pd : List (Nat × AO)) (hp : List AO) (x : Nat) (o : AO), (∀ o o', (x, o) ∈ pd → (x, o') ∈ pd → o = o') → (x, o) ∈ pd → x < hp.length → (flushL pd hp)[x]? = some o
  | [], _, _, _, _, h, _ => by simp at h
  | (i, o') :: r, hp, x, o, hf, h, hx => by
    rw [flushL]
    by_cases hr : ∃ o2, (x, o2) ∈ r
    · obtain ⟨o2, ho2⟩ := hr
      have : o = o2 := hf o o2 h (by simp [ho2])
      rw [this]
      exact flush_in r _ x o2 (fun a b ha hb => hf a b (by simp [ha]) (by simp [hb])) ho2 (by simpa using hx)
    · rw [flush_out r _ x (fun o2 ho2 => hr ⟨o2, ho2⟩)]
      have hxi : x = i ∧ o = o' := by
        rcases List.mem_cons.1 h with h | h
        · simpa using h
        · exact absurd ⟨o, h⟩ hr
      obtain ⟨rfl, rfl⟩ := hxi
      simp [hx]
theorem void_at {l : List AO} {x : Nat} (h : getAO l x = .void) : l[x]? = some .void := by
  rw [getAO_eq] at h
  cases hx : l[x]? with
  | none => rw [hx] at h; cases h
  | some o => rw [hx] at h; simpa using h

/-- The lexical frame before operation i. -/
theorem seq_look (hd : drawOk ops = true) {S : Nat → Nat} {D : Nat → List (Nat × AO)} {O : Nat → AO} {q : Nat} (hql : q ≤ ops.length) (hs : Seq E ops (bef ops) (ops.map (hsen E)) 0 (ops.take q) V F H M S D O) : ∀ (i : Nat), i ≤ q → (∀ j o t, j < i → ops[j]? = some o → o.dst = some t → look (F i) t = V j) ∧ (∀ t, (∀ j o, j < i → ops[j]? = some o → o.dst ≠ some t) → look (F i) t = look (F 0) t)
  | 0, _ => ⟨fun j o t hj => absurd hj (Nat.not_lt_zero _), fun t _ => rfl⟩
  | i + 1, hi => by
    obtain ⟨h1, h2⟩ := seq_look hd hql hs i (by omega)
    have ho : ops[i]? = some (ops[i]'(by omega)) := List.getElem?_eq_getElem (by omega)
    have hf := hs.f i _ (take_at (by omega) hql)
    simp only [Nat.zero_add] at hf
    refine ⟨fun j o t hj hjo ht => ?_, fun t hall => ?_⟩
    · rw [hf]
      by_cases hji : j = i
      · subst hji
        rw [ho] at hjo; injection hjo with hjo
        rw [hjo, ht]
        simp [putF, look_put]
      · have hne : ∀ d, (ops[i]'(by omega)).dst = some d → d ≠ t := fun d hd' e => hji (dst_ne hd hjo ho ht (e ▸ hd'))
        cases hdi : (ops[i]'(by omega)).dst with
        | none => exact h1 j o t (by omega) hjo ht
        | some d =>
          simp only [putF, look_put, if_neg (hne d hdi)]
          exact h1 j o t (by omega) hjo ht
    · rw [hf]
      cases hdi : (ops[i]'(by omega)).dst with
      | none => exact h2 t fun j o hj hjo => hall j o (by omega) hjo
      | some d =>
        have : d ≠ t := fun e => hall i _ (by omega) ho (e ▸ hdi)
        simp only [putF, look_put, if_neg this]
        exact h2 t fun j o hj hjo => hall j o (by omega) hjo

/-- The barriers behind p are those behind j. -/
def Pend (E : Env) (ops : List Oper) (q p j : Nat) : Prop := ∀ e, e < q → barrier (bef ops) (ops.map (hsen E)) e = true → (e < j ↔ e < p)

structure Inv (E : Env) (W0 : World) (X : Bd) (N : Nat) (ops : List Oper) (V : Nat → AV) (F : Nat → Fr) (H : Nat → List AO) (M S : Nat → Nat) (O : Nat → AO) (q : Nat) (listed : Array Bool) (a : Act) (w : World) (c : Cx) (fr : Fr) (hp : List AO) (p : Nat) : Prop where
  sz : listed.size = ops.length
  cl : Closed ops listed
  cw : c.w = w
  g : Gam W0 X N c fr hp (M p) a
  pl : p ≤ q
  tl : ∀ i, q ≤ i → ¬ On listed i
  b : ∀ e, e < q → barrier (bef ops) (ops.map (hsen E)) e = true → (On listed e ↔ e < p)
  v : ∀ i o t, ops[i]? = some o → On listed i → o.dst = some t → look fr t = V i
  u : ∀ t, (∀ i o, ops[i]? = some o → On listed i → o.dst ≠ some t) → look fr t = look (F 0) t
  al : ∀ j, NewAt E ops q j → On listed j → Pend E ops q p j → hp[S j]? = some (O j)
  ar : ∀ x, (∀ j, NewAt E ops q j → On listed j → Pend E ops q p j → S j ≠ x) → hp[x]? = (H p)[x]?

theorem on_set {listed : Array Bool} {i j : Nat} (hi : i < listed.size) : On (listed.setIfInBounds i true) j ↔ j = i ∨ On listed j := by
  unfold On
  by_cases h : j = i
  · subst h; simp [Array.getD, hi]
  · have h' : i ≠ j := fun e => h e.symm
    by_cases hj : j < listed.size <;> simp [Array.getD, hj, h, Array.getElem_setIfInBounds, h']

theorem any_ok (hE : EnvOk P E) (hd : drawOk ops = true) {S : Nat → Nat} {D : Nat → List (Nat × AO)} {O : Nat → AO} {q : Nat} (hql : q ≤ ops.length) (htl : ∀ k, q ≤ k → k < ops.length → ∀ j, j < q → j ∈ (bef ops).getD k []) (hs : Seq E ops (bef ops) (ops.map (hsen E)) 0 (ops.take q) V F H M S D O) (hD0 : D 0 = [])
    (hfin : ∀ (fuel : Nat) (listed : Array Bool) (a : Act) (w : World), listed.toList.count false ≤ fuel → listed.size = ops.length → Closed ops listed → (∀ i, i < q → On listed i) → (∀ i, q ≤ i → ¬ On listed i) → (∃ c, c.w = w ∧ Gam W0 X E.N c (F q) (flushL (D q) (H q)) (M q) a) → wpAny P .any ops.toArray Qe fuel listed a w) :
    ∀ (fuel : Nat) (listed : Array Bool) (a : Act) (w : World), listed.toList.count false ≤ fuel →
      (∃ c fr hp p, Inv E W0 X E.N ops V F H M S O q listed a w c fr hp p) → wpAny P .any ops.toArray Qe fuel listed a w := by
  have hlen := (befGo_spec ops []).1
  simp only [List.length_nil, Nat.zero_add] at hlen
  -- as long as one of the first is missing, one of them can go
  have more : ∀ (listed : Array Bool), listed.size = ops.length → Closed ops listed → ¬ (∀ i, i < q → On listed i) → Region.ready .any ops.toArray listed ≠ [] := by
    intro listed hsz hcl hno hr
    refine hno fun i hi => ?_
    have all : ∀ n i, i < n → i < q → On listed i := by
      intro n
      induction n with
      | zero => exact fun i hi => absurd hi (Nat.not_lt_zero _)
      | succ n ih =>
        intro i hi hil
        by_cases hon : On listed i
        · exact hon
        · exfalso
          have ho : ops[i]? = some (ops[i]'(by omega)) := List.getElem?_eq_getElem (by omega)
          have : i ∈ Region.ready .any ops.toArray listed := by
            rw [mem_ready]
            refine ⟨?_, ops[i]'(by omega), by simp [ho], fun e he hb => ?_⟩
            · unfold On at hon
              have hls : i < listed.size := by omega
              simp [Array.getD, hls] at hon ⊢
              exact hon
            · have hlt := drawOk_edge hd ho he hb
              exact ih e.on (by omega) (by omega)
          rw [hr] at this
          cases this
    exact all (i + 1) i (by omega) hi
  -- the objects there are those of the lexical run, with what is pending
  have flush : ∀ (listed : Array Bool) (hp : List AO) (i : Nat), i ≤ q → (∀ j, NewAt E ops q j → j < i → On listed j) → (∀ j, NewAt E ops q j → i ≤ j → Pend E ops q i j → ¬ On listed j) →
      (∀ j, NewAt E ops q j → On listed j → Pend E ops q i j → hp[S j]? = some (O j)) → (∀ x, (∀ j, NewAt E ops q j → On listed j → Pend E ops q i j → S j ≠ x) → hp[x]? = (H i)[x]?) → hp = flushL (D i) (H i) := by
    intro listed hp i hi hon hoff al ar
    have hmem := seq_D hql hs hD0 i hi
    have hpend : ∀ j, NewAt E ops q j → j < i → (∀ e, j ≤ e → e < i → barrier (bef ops) (ops.map (hsen E)) e = false) → Pend E ops q i j := fun j hj hji hbb e he hbe => by
      constructor
      · intro h; omega
      · intro h
        rcases Nat.lt_or_ge e j with h1 | h1
        · exact h1
        · rw [hbb e h1 h] at hbe; cases hbe
    have hnob : ∀ j, NewAt E ops q j → j < i → Pend E ops q i j → ∀ e, j ≤ e → e < i → barrier (bef ops) (ops.map (hsen E)) e = false := fun j hj hji hpj e h1 h2 => by
      cases hbe : barrier (bef ops) (ops.map (hsen E)) e with
      | false => rfl
      | true => have := (hpj e (by omega) hbe).2 h2; omega
    refine List.ext_getElem? fun x => ?_
    by_cases hx : ∃ j, NewAt E ops q j ∧ On listed j ∧ Pend E ops q i j ∧ S j = x
    · obtain ⟨j, hj, hjon, hjp, rfl⟩ := hx
      have hji : j < i := Classical.byContradiction fun h => hoff j hj (by omega) hjp hjon
      rw [al j hj hjon hjp]
      have hj0 := hj
      obtain ⟨_, hbj, oj, hoj, hnj⟩ := hj0
      have hv := (seq_new hql hs hj.1 hbj hoj hnj).2.2.2.2.1
      rw [← (seq_same hql hs (r := j) (s := i) (by have := hj.1; omega) hi hjp).1] at hv
      have hin : (S j, O j) ∈ D i := (hmem _ _).2 ⟨j, hj, hji, hnob j hj hji hjp, rfl, rfl⟩
      have hvl := (List.getElem?_eq_some_iff.1 (void_at hv)).1
      refine (flush_in _ _ _ _ (fun o1 o2 h1 h2 => ?_) hin hvl).symm
      obtain ⟨j1, n1, _, _, e1, f1⟩ := (hmem _ _).1 h1
      obtain ⟨j2, n2, _, _, e2, f2⟩ := (hmem _ _).1 h2
      have : j1 = j2 := Classical.byContradiction fun hne => slot_ne hql hs n1 n2 hne (e1.symm.trans e2)
      rw [f1, f2, this]
    · rw [ar x fun j h1 h2 h3 h4 => hx ⟨j, h1, h2, h3, h4⟩]
      refine (flush_out _ _ _ fun o ho => ?_).symm
      obtain ⟨j, n1, h1, h2, e1, _⟩ := (hmem _ _).1 ho
      exact hx ⟨j, n1, hon j n1 h1, hpend j n1 h1 h2, e1.symm⟩
  -- all of the first are there
  have reach : ∀ (listed : Array Bool) (a : Act) (w : World), (∃ c fr hp p, Inv E W0 X E.N ops V F H M S O q listed a w c fr hp p) → (∀ i, i < q → On listed i) → ∃ c, c.w = w ∧ Gam W0 X E.N c (F q) (flushL (D q) (H q)) (M q) a := by
    rintro listed a w ⟨c, fr, hp, p, I⟩ all'
    obtain ⟨h1, h2⟩ := seq_look hd hql hs q (Nat.le_refl _)
    have hpq : ∀ e, e < q → barrier (bef ops) (ops.map (hsen E)) e = true → (e < p ↔ e < q) := fun e he hb => ⟨fun _ => he, fun _ => (I.b e he hb).1 (all' e he)⟩
    have hc := seq_same hql hs I.pl (Nat.le_refl q) hpq
    have hpd : ∀ j, Pend E ops q p j ↔ Pend E ops q q j := fun j => ⟨fun h e he hb => (h e he hb).trans (hpq e he hb), fun h e he hb => (h e he hb).trans (hpq e he hb).symm⟩
    have hfl := flush listed hp q (Nat.le_refl _) (fun j hj _ => all' j hj.1) (fun j hj hqj => absurd hj.1 (by omega)) (fun j n1 n2 n3 => I.al j n1 n2 ((hpd j).2 n3)) (fun x hx => by
      rw [hc.1]
      exact I.ar x fun j n1 n2 n3 => hx j n1 n2 ((hpd j).1 n3))
    refine ⟨c, I.cw, ?_⟩
    rw [← hfl, hc.2]
    refine I.g.congr fun t => ?_
    by_cases hex : ∃ (i : Nat) (o : Oper), i < q ∧ ops[i]? = some o ∧ o.dst = some t
    · obtain ⟨i, o, hil, hio, ht⟩ := hex
      rw [h1 i o t hil hio ht, I.v i o t hio (all' i hil) ht]
    · rw [h2 t (fun j o hj hjo ht => hex ⟨j, o, hj, hjo, ht⟩), I.u t (fun i o hio hon ht => by
        by_cases hiq : i < q
        · exact hex ⟨i, o, hiq, hio, ht⟩
        · exact I.tl i (by omega) hon)]
  intro fuel
  induction fuel with
  | zero =>
    intro listed a w hcnt hI
    by_cases hall : ∀ i, i < q → On listed i
    · have hI' := hI
      obtain ⟨c, fr, hp, p, I⟩ := hI
      exact hfin 0 listed a w hcnt I.sz I.cl hall I.tl (reach listed a w hI' hall)
    · exfalso
      obtain ⟨c, fr, hp, p, I⟩ := hI
      refine more listed I.sz I.cl hall (List.eq_nil_iff_forall_not_mem.2 fun i hi => ?_)
      rw [mem_ready] at hi
      obtain ⟨h0, o, ho, _⟩ := hi
      have hil : i < listed.size := by
        rw [I.sz]
        have : ops[i]? = some o := by simpa using ho
        exact (List.getElem?_eq_some_iff.1 this).1
      have : false ∈ listed.toList := by
        simp [Array.getD, hil] at h0
        exact List.mem_of_getElem? (i := i) (by simp [hil, h0])
      have := List.count_pos_iff.2 this
      omega
  | succ fuel ih =>
    intro listed a w hcnt hI
    by_cases hall0 : ∀ i, i < q → On listed i
    · have hI' := hI
      obtain ⟨c, fr, hp, p, I⟩ := hI
      exact hfin _ listed a w hcnt I.sz I.cl hall0 I.tl (reach listed a w hI' hall0)
    obtain ⟨c, fr, hp, p, I⟩ := hI
    refine ⟨fun hr => absurd hr (more listed I.sz I.cl hall0), fun i hi => ?_⟩
    rw [mem_ready] at hi
    obtain ⟨h0, o, ho', hall⟩ := hi
    have ho : ops[i]? = some o := by simpa using ho'
    have hil : i < ops.length := (List.getElem?_eq_some_iff.1 ho).1
    have hils : i < listed.size := by rw [I.sz]; exact hil
    have hnot : ¬ On listed i := by
      unfold On
      simp [Array.getD, hils] at h0 ⊢
      exact h0
    have hbefore := bef_on I.cl i i (Nat.le_refl _) o ho hall
    have hiq : i < q := by
      rcases Nat.lt_or_ge i q with h | h
      · exact h
      · exact absurd (fun j hj => hbefore j (htl i h hil j hj)) hall0
    -- who waits for i is not there
    have hwait : ∀ k, k < ops.length → i ∈ (bef ops).getD k [] → ¬ On listed k := fun k hk hmem hon => by
      have hko : ops[k]? = some (ops[k]'hk) := List.getElem?_eq_getElem hk
      exact hnot (bef_on I.cl k k (Nat.le_refl _) _ hko (I.cl k _ hko hon) i hmem)
    have hsi : (ops.map (hsen E)).getD i false = hsen E o := by simp [List.getD, ho]
    obtain ⟨l1, l2⟩ := seq_look hd hql hs i (by omega)
    -- what it reads is what it reads there
    have hag : Agree ops o (F i) fr := by
      intro t ht
      by_cases hex : ∃ (k : Nat) (ok : Oper), ops[k]? = some ok ∧ ok.dst = some t
      · obtain ⟨k, ok, hk, hkt⟩ := hex
        rcases dst_read hd ho hk hkt ht with ⟨hki, hmem⟩ | ⟨hik, hmem⟩
        · rw [I.v k ok t hk (hbefore k hmem) hkt, l1 k ok t hki hk hkt]
        · have hkl : k < ops.length := (List.getElem?_eq_some_iff.1 hk).1
          have hknot : ¬ On listed k := hwait k hkl hmem
          rw [I.u t (fun j oj hj hon hjt => by
            have := dst_ne hd hj hk hjt hkt
            subst this
            exact hknot hon), l2 t (fun j oj hj hjo hjt => by
            have := dst_ne hd hjo hk hjt hkt
            omega)]
      · rw [I.u t (fun j oj hj _ hjt => hex ⟨j, oj, hj, hjt⟩), l2 t (fun j oj _ hj hjt => hex ⟨j, oj, hj, hjt⟩)]
    have hoi : (ops.take q)[i]? = some o := by rw [List.getElem?_take, if_pos hiq]; exact ho
    have pass : ∀ {K : Post} (dr : Bool) {nx : Nat}, Gam W0 X E.N c fr hp nx a → stepG E dr ops o fr hp nx K → (∀ a' w', Is W0 X E.N K a' w' → wpAny P .any ops.toArray Qe fuel (listed.setIfInBounds i true) a' w') → wpOp P ops.toArray Qe i (wpAny P .any ops.toArray Qe fuel (listed.setIfInBounds i true)) a c.w := by
      intro K dr nx hG hstep hnext
      have hmain := stepG_ok (Qe := Qe) hE ops _ hG hstep
      unfold wpOp
      simp only [ho']
      split
      · rename_i hw
        rw [if_pos hw] at hmain
        exact .inl (Oper.wp_mono hnext hmain)
      · rename_i hw
        rw [if_neg hw] at hmain
        exact hnext _ _ hmain
    -- on from there
    have next : ∀ (p' : Nat) (hp' : List AO), p' ≤ q → (∀ e, e < q → barrier (bef ops) (ops.map (hsen E)) e = true → ((e = i ∨ On listed e) ↔ e < p')) → (∀ j, NewAt E ops q j → (j = i ∨ On listed j) → Pend E ops q p' j → hp'[S j]? = some (O j)) → (∀ x, (∀ j, NewAt E ops q j → (j = i ∨ On listed j) → Pend E ops q p' j → S j ≠ x) → hp'[x]? = (H p')[x]?) →
        ∀ a' w', Is W0 X E.N (To o.dst (V i) fr hp' (M p')) a' w' → wpAny P .any ops.toArray Qe fuel (listed.setIfInBounds i true) a' w' := by
      rintro p' hp' hpq hb' al' ar' a' w' ⟨c', fr', hp2, nx', hw', hG', rfl, rfl, rfl⟩
      refine ih _ a' w' ?_ ⟨c', putF o.dst (V i) fr, hp2, p', ?_⟩
      · have hfi : listed.toList[i]? = some false := by
          simp [Array.getD, hils] at h0
          simp [hils, h0]
        have := count_set listed.toList i hfi
        rw [Array.toList_setIfInBounds]
        omega
      · refine ⟨by simp [I.sz], fun j oj hj hon e he hb => ?_, hw', hG', hpq, fun j hj hon => ?_, fun e he hb => ?_, fun j oj t hj hon ht => ?_, fun t hallt => ?_, fun j n1 n2 n3 => al' j n1 ((on_set hils).1 n2) n3, fun x hx => ar' x fun j n1 n2 n3 => hx j n1 ((on_set hils).2 n2) n3⟩
        · rw [on_set hils] at hon ⊢
          rcases hon with rfl | hon
          · rw [ho] at hj; injection hj with hj; subst hj
            exact .inr (hall e he hb)
          · exact .inr (I.cl j oj hj hon e he hb)
        · rw [on_set hils] at hon
          rcases hon with rfl | hon
          · omega
          · exact I.tl j hj hon
        · rw [on_set hils]; exact hb' e he hb
        · rw [on_set hils] at hon
          by_cases hji : j = i
          · subst hji
            rw [ho] at hj; injection hj with hj; subst hj
            rw [ht]; simp [putF, look_put]
          · have honj := hon.resolve_left hji
            cases hdo : o.dst with
            | none => exact I.v j oj t hj honj ht
            | some d =>
              have : d ≠ t := fun e => hji (dst_ne hd hj ho ht (e ▸ hdo))
              simp only [putF, look_put, if_neg this]
              exact I.v j oj t hj honj ht
        · have hd1 : o.dst ≠ some t := hallt i o ho ((on_set hils).2 (.inl rfl))
          have hu := I.u t fun j oj hj hon => hallt j oj hj ((on_set hils).2 (.inr hon))
          cases hdo : o.dst with
          | none => exact hu
          | some d =>
            have : d ≠ t := fun e => hd1 (e ▸ hdo)
            simp only [putF, look_put, if_neg this]
            exact hu
    rw [← I.cw]
    cases hse : hsen E o with
    | false =>
      -- it may stand anywhere
      have hnb : barrier (bef ops) (ops.map (hsen E)) i = false := by
        cases hb : barrier (bef ops) (ops.map (hsen E)) i with
        | false => rfl
        | true => have := (barrier_spec hb).1; rw [hsi, hse] at this; cases this
      have hnn : isNew o = false := by
        cases hn : isNew o with
        | false => rfl
        | true => rw [new_hsen hn] at hse; cases hse
      have hpu := hs.pu i o hoi (by rw [Nat.zero_add]; exact hnb) hnn
      simp only [Nat.zero_add] at hpu
      have hstep := stepG_free (hp' := hp) (nx' := M p) hse (hpu.2.2.2.2 fr hag)
      refine pass true I.g hstep (next p hp I.pl (fun e he hb => ?_) (fun j n1 n2 n3 => ?_) fun x hx => I.ar x fun j n1 n2 n3 => hx j n1 (.inr n2) n3)
      · rw [← I.b e he hb]
        refine ⟨fun h => h.resolve_left fun hei => ?_, .inr⟩
        rw [hei, hnb] at hb; cases hb
      · refine I.al j n1 (n2.resolve_left fun hji => ?_) n3
        obtain ⟨_, _, oj, hoj, hnj⟩ := n1
        rw [hji, ho] at hoj; injection hoj with hoj
        rw [hoj, hnj] at hnn; cases hnn
    | true =>
    rw [hse] at hsi
    -- the objects are those of the lexical run
    have hbar : ∀ e, e < q → barrier (bef ops) (ops.map (hsen E)) e = true → (On listed e ↔ e < i) := by
      intro e he hb
      obtain ⟨_, hb1, hb2⟩ := barrier_spec hb
      rcases Nat.lt_trichotomy e i with hlt | rfl | hgt
      · exact ⟨fun _ => hlt, fun _ => hbefore e (hb2 i hlt (by unfold bef; omega) hsi)⟩
      · exact ⟨fun h => absurd h hnot, fun h => absurd h (Nat.lt_irrefl _)⟩
      · exact ⟨fun h => absurd h (hwait e (by omega) (hb1 i hgt hsi)), fun h => absurd h (by omega)⟩
    have hiff : ∀ e, e < q → barrier (bef ops) (ops.map (hsen E)) e = true → (e < p ↔ e < i) := fun e he hb => (I.b e he hb).symm.trans (hbar e he hb)
    have hHM := seq_same hql hs I.pl (Nat.le_of_lt hiq) hiff
    have hpd : ∀ j, Pend E ops q p j ↔ Pend E ops q i j := fun j => ⟨fun h e he hb => (h e he hb).trans (hiff e he hb), fun h e he hb => (h e he hb).trans (hiff e he hb).symm⟩
    have al : ∀ j, NewAt E ops q j → On listed j → Pend E ops q i j → hp[S j]? = some (O j) := fun j n1 n2 n3 => I.al j n1 n2 ((hpd j).2 n3)
    have ar : ∀ x, (∀ j, NewAt E ops q j → On listed j → Pend E ops q i j → S j ≠ x) → hp[x]? = (H i)[x]? := fun x hx => by
      rw [hHM.1]
      exact I.ar x fun j n1 n2 n3 => hx j n1 n2 ((hpd j).1 n3)
    have hG : Gam W0 X E.N c fr hp (M i) a := by rw [hHM.2]; exact I.g
    have pend1 : barrier (bef ops) (ops.map (hsen E)) i = false → ∀ j, Pend E ops q (i + 1) j ↔ Pend E ops q i j := fun hb j => by
      have h1 : ∀ e, e < q → barrier (bef ops) (ops.map (hsen E)) e = true → (e < i + 1 ↔ e < i) := fun e he hbe => by
        have : e ≠ i := fun h => by rw [h, hb] at hbe; cases hbe
        omega
      exact ⟨fun h e he hbe => (h e he hbe).trans (h1 e he hbe), fun h e he hbe => (h e he hbe).trans (h1 e he hbe).symm⟩
    have hsen_new : ∀ j, NewAt E ops q j → (ops.map (hsen E)).getD j false = true := fun j hj => by
      obtain ⟨_, _, oj, hoj, hnj⟩ := hj
      simp [List.getD, hoj, new_hsen hnj]
    have hb1' : ∀ e, e < q → barrier (bef ops) (ops.map (hsen E)) e = true → ((e = i ∨ On listed e) ↔ e < i + 1) := fun e he hb => by
      rw [hbar e he hb]; omega
    cases hb : barrier (bef ops) (ops.map (hsen E)) i with
    | true =>
      have hbs := hs.br i o hoi (by rw [Nat.zero_add]; exact hb)
      simp only [Nat.zero_add] at hbs
      obtain ⟨_, hb1, hb2⟩ := barrier_spec hb
      have hfl := flush listed hp i (Nat.le_of_lt hiq) (fun j hj hji => hbefore j (hb1 j hji (hsen_new j hj))) (fun j hj hij _ hon => by
        have hne : i ≠ j := fun e => by have := hj.2.1; rw [← e, hb] at this; cases this
        have hjl : j < ops.length := by have := hj.1; omega
        exact hwait j hjl (hb2 j (by omega) (by unfold bef; omega) (hsen_new j hj)) hon) al ar
      have hstep := hbs.2.2 fr hag
      rw [← hfl] at hstep
      refine pass false hG hstep (next (i + 1) (H (i + 1)) (by omega) hb1' (fun j n1 n2 n3 => ?_) fun x _ => rfl)
      exfalso
      have hij : i < j := (n3 i hiq hb).2 (by omega)
      rcases n2 with rfl | n2
      · omega
      · have hjl : j < ops.length := by have := n1.1; omega
        exact hwait j hjl (hb2 j hij (by unfold bef; omega) (hsen_new j n1)) n2
    | false =>
      cases hn : isNew o with
      | true =>
        have hni : NewAt E ops q i := ⟨hiq, hb, o, ho, hn⟩
        obtain ⟨e1, e2, e3, e4, hvoid, hrun⟩ := seq_new hql hs hiq hb ho hn
        obtain ⟨hobs, hev, hput⟩ := hrun fr hag
        have hsl : hp[S i]? = some .void := by
          rw [ar (S i) fun j n1 n2 _ h => slot_ne hql hs n1 hni (fun e => hnot (e ▸ n2)) h]
          exact void_at hvoid
        have hx := (obs_ok hG rfl _ hobs).1
        have hev' : evalOp E (opd fr) hp (S i) o.op = .new (V i) (O i) := new_hp hn hev
        obtain ⟨x, c', hex, hG', hsx⟩ := good_newAt hE hG hsl hev' hn hx
        obtain ⟨fr2, hG2, hfr2⟩ := hG'.putd hput hsx
        have hw : Region.wanted o (yielded ops.toArray a.tmps) = true := by
          unfold isNew at hn
          simp only [Bool.and_eq_true, Option.isNone_iff_eq_none] at hn
          simp [Region.wanted, hn.1]
        unfold wpOp
        simp only [ho']
        rw [if_pos hw]
        refine .inl ?_
        unfold Oper.wp
        rw [hex, Oper.upon_value]
        refine next (i + 1) (hp.set (S i) (O i)) (by omega) hb1' (fun j n1 n2 n3 => ?_) (fun y hy => ?_) _ _ ⟨c', fr2, hp.set (S i) (O i), M i, rfl, hG2, hfr2, rfl, e2.symm⟩
        · by_cases hji : j = i
          · subst hji
            simp [(List.getElem?_eq_some_iff.1 hsl).1]
          · rw [List.getElem?_set_ne (slot_ne hql hs hni n1 fun e => hji e.symm)]
            exact al j n1 (n2.resolve_left hji) ((pend1 hb j).1 n3)
        · have hyi : S i ≠ y := hy i hni (.inl rfl) ((pend1 hb i).2 fun e he hbe => Iff.rfl)
          rw [List.getElem?_set_ne hyi, e1]
          exact ar y fun j n1 n2 n3 => hy j n1 (.inr n2) ((pend1 hb j).2 n3)
      | false =>
        have hpu := hs.pu i o hoi (by rw [Nat.zero_add]; exact hb) hn
        simp only [Nat.zero_add] at hpu
        obtain ⟨e1, e2, e3, e4, hrun⟩ := hpu
        have halive : Alive (H i) hp := fun x hxl => by
          by_cases hxx : ∃ j, NewAt E ops q j ∧ On listed j ∧ Pend E ops q i j ∧ S j = x
          · exfalso
            obtain ⟨j, hj, hjon, hjp, rfl⟩ := hxx
            have hj0 := hj
            obtain ⟨_, hbj, oj, hoj, hnj⟩ := hj0
            have hv := (seq_new hql hs hj.1 hbj hoj hnj).2.2.2.2.1
            rw [← (seq_same hql hs (r := j) (s := i) (by have := hj.1; omega) (Nat.le_of_lt hiq) hjp).1] at hv
            rw [hv] at hxl
            cases hxl
          · rw [getAO_eq, getAO_eq, ar x fun j h1 h2 h3 h4 => hxx ⟨j, h1, h2, h3, h4⟩]
        have hstep := stepG_alive halive (hrun fr hag)
        rw [← e2] at hstep
        have hstep' : stepG E true ops o fr hp (M i) (To o.dst (V i) fr hp (M (i + 1))) := by rw [e2] at hstep ⊢; exact hstep
        refine pass true hG hstep' (next (i + 1) hp (by omega) hb1' (fun j n1 n2 n3 => ?_) fun y hy => ?_)
        · rcases n2 with rfl | n2
          · obtain ⟨_, _, o', ho2, hno⟩ := n1
            rw [ho] at ho2; injection ho2 with ho2
            rw [ho2, hno] at hn; cases hn
          · exact al j n1 n2 ((pend1 hb j).1 n3)
        · rw [e1]
          exact ar y fun j n1 n2 n3 => hy j n1 (.inr n2) ((pend1 hb j).2 n3)

/-- Nothing is ready when all are there. -/
theorem ready_none {listed : Array Bool} (hsz : listed.size = ops.length) (h : ∀ i, i < ops.length → On listed i) : Region.ready .any ops.toArray listed = [] := by
  refine List.eq_nil_iff_forall_not_mem.2 fun i hi => ?_
  rw [mem_ready] at hi
  obtain ⟨h0, o, ho, _⟩ := hi
  have ho' : ops[i]? = some o := by simpa using ho
  have hil : i < ops.length := (List.getElem?_eq_some_iff.1 ho').1
  have hon := h i hil
  unfold On at hon
  have hls : i < listed.size := by omega
  simp [Array.getD, hls] at h0 hon
  rw [hon] at h0
  cases h0
theorem any_none {listed : Array Bool} {a : Act} {w : World} (hr : Region.ready .any ops.toArray listed = []) (hq : Qe .normal a w) : ∀ fuel, wpAny P .any ops.toArray Qe fuel listed a w
  | 0 => ⟨hr, hq⟩
  | fuel + 1 => ⟨fun _ => hq, fun i hi => by rw [hr] at hi; cases hi⟩

theorem op_next (hE : EnvOk P E) {i : Nat} {o : Oper} (ho : ops[i]? = some o) {c : Cx} {fr : Fr} {hp : List AO} {nx : Nat} {a : Act} (hG : Gam W0 X E.N c fr hp nx a) {dr : Bool} {K : Post} (hk : stepG E dr ops o fr hp nx K) {R : Act → World → Prop} (hR : ∀ a' w', Is W0 X E.N K a' w' → R a' w') : wpOp P ops.toArray Qe i R a c.w := by
  have hmain := stepG_ok (Qe := Qe) hE ops _ hG hk
  have ho' : ops.toArray[i]? = some o := by simpa using ho
  unfold wpOp
  simp only [ho']
  split
  · rename_i hw
    rw [if_pos hw] at hmain
    exact .inl (Oper.wp_mono hR hmain)
  · rename_i hw
    rw [if_neg hw] at hmain
    exact hR _ _ hmain
theorem is_ready (hd : drawOk ops = true) {listed : Array Bool} (hsz : listed.size = ops.length) {i : Nat} (hi : i < ops.length) (hno : ¬ On listed i) (hb : ∀ k, k < i → On listed k) : i ∈ Region.ready .any ops.toArray listed := by
  rw [mem_ready]
  have ho : ops[i]? = some (ops[i]'hi) := List.getElem?_eq_getElem hi
  refine ⟨?_, ops[i]'hi, by simp [ho], fun e he hbd => hb _ (drawOk_edge hd ho he hbd)⟩
  unfold On at hno
  have hls : i < listed.size := by omega
  simp [Array.getD, hls] at hno ⊢
  exact hno
theorem count_pos {listed : Array Bool} (hsz : listed.size = ops.length) {i : Nat} (hi : i < ops.length) (hno : ¬ On listed i) : 0 < listed.toList.count false := by
  refine List.count_pos_iff.2 (List.mem_of_getElem? (i := i) ?_)
  unfold On at hno
  have hls : i < listed.size := by omega
  simp [Array.getD, hls] at hno
  simp [hls, hno]
theorem count_next {listed : Array Bool} (hsz : listed.size = ops.length) {i : Nat} (hi : i < ops.length) (hno : ¬ On listed i) : (listed.setIfInBounds i true).toList.count false + 1 = listed.toList.count false := by
  rw [Array.toList_setIfInBounds]
  refine count_set _ i ?_
  unfold On at hno
  have hls : i < listed.size := by omega
  simp [Array.getD, hls] at hno
  simp [hls, hno]

/-- One operation is missing. -/
theorem last_ok (hE : EnvOk P E) (hd : drawOk ops = true) {j : Nat} {oj : Oper} (hoj : ops[j]? = some oj) {listed : Array Bool} (hsz : listed.size = ops.length) (hon : ∀ i, i < ops.length → i ≠ j → On listed i) (hoff : ¬ On listed j)
    {c : Cx} {fr : Fr} {hp : List AO} {nx : Nat} {a : Act} (hG : Gam W0 X E.N c fr hp nx a) {Q : Post} (hq : ∀ a' w', Is W0 X E.N Q a' w' → Qe .normal a' w') (r : runOps E ops [oj] fr hp nx Q) : ∀ fuel, listed.toList.count false ≤ fuel → wpAny P .any ops.toArray Qe fuel listed a c.w := by
  have hj : j < ops.length := (List.getElem?_eq_some_iff.1 hoj).1
  intro fuel hcnt
  cases fuel with
  | zero => have := count_pos hsz hj hoff; omega
  | succ fuel =>
    have hrd := is_ready hd hsz hj hoff (fun k hk => hon k (by omega) (by omega))
    refine ⟨fun h => (by rw [h] at hrd; cases hrd), fun k hk => ?_⟩
    rw [mem_ready] at hk
    obtain ⟨h0, o, ho, _⟩ := hk
    have ho' : ops[k]? = some o := by simpa using ho
    have hkl : k < ops.length := (List.getElem?_eq_some_iff.1 ho').1
    have hkj : k = j := Classical.byContradiction fun hne => by
      have := hon k hkl hne
      unfold On at this
      have hls : k < listed.size := by omega
      simp [Array.getD, hls] at h0 this
      rw [this] at h0; cases h0
    subst hkj
    refine op_next hE hoj hG r fun a' w' hI => ?_
    refine any_none (ready_none (by simp [hsz]) fun i hi => ?_) (hq a' w' hI) fuel
    rw [on_set (by omega)]
    by_cases h : i = k
    · exact .inl h
    · exact .inr (hon i hi h)

/-- The two last ones are missing. -/
theorem lasts_ok (hE : EnvOk P E) (hd : drawOk ops = true) {n : Nat} (hn : ops.length = n + 2) {s1 s2 : Oper} (h1 : ops[n]? = some s1) (h2 : ops[n + 1]? = some s2) {listed : Array Bool} (hsz : listed.size = ops.length) (hon : ∀ i, i < n → On listed i) (hoff : ∀ i, n ≤ i → ¬ On listed i)
    {c : Cx} {fr : Fr} {hp : List AO} {nx : Nat} {a : Act} (hG : Gam W0 X E.N c fr hp nx a) {Q : Post} (hq : ∀ a' w', Is W0 X E.N Q a' w' → Qe .normal a' w')
    (r1 : runOps E ops [s1, s2] fr hp nx Q) (r2 : runOps E ops [s2, s1] fr hp nx Q) : ∀ fuel, listed.toList.count false ≤ fuel → wpAny P .any ops.toArray Qe fuel listed a c.w := by
  intro fuel hcnt
  cases fuel with
  | zero => have := count_pos hsz (i := n) (by omega) (hoff n (Nat.le_refl _)); omega
  | succ fuel =>
    have hrd := is_ready hd hsz (i := n) (by omega) (hoff n (Nat.le_refl _)) hon
    refine ⟨fun h => (by rw [h] at hrd; cases hrd), fun k hk => ?_⟩
    rw [mem_ready] at hk
    obtain ⟨h0, o, ho, _⟩ := hk
    have ho' : ops[k]? = some o := by simpa using ho
    have hkl : k < ops.length := (List.getElem?_eq_some_iff.1 ho').1
    have hkn : n ≤ k := Classical.byContradiction fun hne => by
      have := hon k (by omega)
      unfold On at this
      have hls : k < listed.size := by omega
      simp [Array.getD, hls] at h0 this
      rw [this] at h0; cases h0
    have hc1 := count_next hsz hkl (hoff k hkn)
    have hkc : k = n ∨ k = n + 1 := by omega
    rcases hkc with rfl | rfl
    · refine op_next hE h1 hG r1 fun a' w' hI => ?_
      obtain ⟨c', fr', hp', nx', rfl, hG', hK⟩ := hI
      refine last_ok hE hd h2 (by simp [hsz]) (fun i hi hne => ?_) (fun h => ?_) hG' hq hK fuel (by omega)
      · rw [on_set (by omega)]
        by_cases h : i = k
        · exact .inl h
        · exact .inr (hon i (by omega))
      · rw [on_set (by omega)] at h
        rcases h with h | h
        · omega
        · exact hoff _ (by omega) h
    · refine op_next hE h2 hG r2 fun a' w' hI => ?_
      obtain ⟨c', fr', hp', nx', rfl, hG', hK⟩ := hI
      refine last_ok hE hd h1 (by simp [hsz]) (fun i hi hne => ?_) (fun h => ?_) hG' hq hK fuel (by omega)
      · rw [on_set (by omega)]
        by_cases h : i = n + 1
        · exact .inl h
        · exact .inr (hon i (by omega))
      · rw [on_set (by omega)] at h
        rcases h with h | h
        · omega
        · exact hoff _ (by omega) h

theorem runOps_some {all : List Oper} : ∀ (l : List Oper) {fr : Fr} {hp : List AO} {nx : Nat} {K : Post}, runOps E all l fr hp nx K → ∃ fr' hp' nx', K fr' hp' nx'
  | [], fr, hp, nx, K, h => ⟨fr, hp, nx, h⟩
  | o :: r, fr, hp, nx, K, h => by
    obtain ⟨v, hp', nx', hK, _⟩ := stepG_loc (all := all) h
    exact runOps_some r hK

theorem tail2_ok {tab : List (List Nat)} {pre : List Oper} {s1 s2 : Oper} (h : tail2 tab ops = some (pre, s1, s2)) :
    ∃ n, ops.length = n + 2 ∧ pre = ops.take n ∧ ops[n]? = some s1 ∧ ops[n + 1]? = some s2 ∧ ∀ j, j < n → j ∈ tab.getD n [] ∧ j ∈ tab.getD (n + 1) [] := by
  unfold tail2 at h
  split at h
  · rename_i n hn
    split at h
    · rename_i x y hxy
      cases hb : (isStore x && isStore y && !(tab.getD (n + 1) []).contains n && ((List.range n).all fun j => (tab.getD n []).contains j && (tab.getD (n + 1) []).contains j)) with
      | false => rw [hb] at h; cases h
      | true =>
        rw [hb] at h
        simp only [cond_true, Option.some.injEq, Prod.mk.injEq] at h
        obtain ⟨h1, h2, h3⟩ := h
        subst h2 h3
        simp only [Bool.and_eq_true, List.all_eq_true] at hb
        refine ⟨n, hn, h1.symm, ?_, ?_, fun j hj => ?_⟩
        · have : (ops.drop n)[0]? = some x := by rw [hxy]; rfl
          simpa using this
        · have : (ops.drop n)[1]? = some y := by rw [hxy]; rfl
          simpa using this
        · have := hb.2 j (by simpa using hj)
          simpa using this
    · cases h
  · cases h

theorem voids_ok : ∀ (n : Nat) {hp : List AO} {K : List AO → Prop}, voids n hp K → K (hp ++ List.replicate n .void)
  | 0, hp, K, h => by
    have h' : K hp := h
    simpa using h'
  | n + 1, hp, K, h => by
    have := voids_ok n (snocK_ok hp h)
    simpa [List.replicate_succ] using this
theorem Gam.addVoid {N : Nat} {c : Cx} {fr : Fr} {hp : List AO} {nx : Nat} {a : Act} (h : Gam W0 X N c fr hp nx a) : ∃ c', c'.w = c.w ∧ Gam W0 X N c' fr (hp ++ [.void]) (nx + 1) a := by
  have key := h.add (w' := c.w) (ix := c.n) (n' := c.n + 1) (ln := 0) (k := none) (lo := none) (v := .bool false) (hv := at0_bool false) (ob := .void) (fun _ => False) (.inl ⟨rfl, rfl, rfl⟩) (fun b hb => hb.elim) (Nat.le_refl _) (fun _ _ _ => rfl) rfl rfl rfl (fun g hg => by cases hg)
  obtain ⟨hG, _⟩ := key ⟨updF_at _ _ _, updF_at _ _ _, updF_at _ _ _⟩
  exact ⟨c.add c.w c.n none none (.bool false) 0 (c.n + 1) (at0_bool false), rfl, by rw [nx_len h .void]; exact hG⟩
theorem addVoids {N : Nat} : ∀ (n : Nat) {c : Cx} {fr : Fr} {hp : List AO} {nx : Nat} {a : Act}, Gam W0 X N c fr hp nx a → ∃ c', c'.w = c.w ∧ Gam W0 X N c' fr (hp ++ List.replicate n .void) (nx + n) a
  | 0, c, fr, hp, nx, a, h => ⟨c, rfl, by simpa using h⟩
  | n + 1, c, fr, hp, nx, a, h => by
    obtain ⟨c1, hw1, h1⟩ := h.addVoid
    obtain ⟨c2, hw2, h2⟩ := addVoids n h1
    refine ⟨c2, hw2.trans hw1, ?_⟩
    rw [show nx + (n + 1) = nx + 1 + n by omega]
    simpa [List.replicate_succ] using h2

theorem inv0 {oa : Array Oper} {S : Nat → Nat} {O : Nat → AO} {c : Cx} {fr : Fr} {hp : List AO} {nx : Nat} {a : Act} {q : Nat} (hG : Gam W0 X E.N c fr hp nx a) (hF : F 0 = fr) (hH : H 0 = hp) (hM : M 0 = nx) : Inv E W0 X E.N oa.toList V F H M S O q (Array.replicate oa.size false) a c.w c fr hp 0 := by
  have no : ∀ i, ¬ On (Array.replicate oa.size false) i := fun i hon => by
    unfold On at hon
    by_cases hi : i < oa.size <;> simp [Array.getD, hi] at hon
  exact ⟨by simp, fun i o ho hon => absurd hon (no i), rfl, by rw [hM]; exact hG, Nat.zero_le _, fun i _ => no i, fun e he hbe => ⟨fun hon => absurd hon (no e), fun h => absurd h (Nat.not_lt_zero _)⟩, fun i o t ho hon => absurd hon (no i), fun t _ => by rw [hF], fun j _ hon => absurd hon (no j), fun x _ => by rw [hH]⟩

/-- A region that draws. -/
theorem draw_any (hE : EnvOk P E) {oa : Array Oper} (hd : drawOk oa.toList = true) {c : Cx} {fr : Fr} {hp : List AO} {nx : Nat} {a : Act} {Q : Post} (h : Gam W0 X E.N c fr hp nx a)
    (hk : drawRun E oa.toList fr hp nx Q) (hq : ∀ a' w', Is W0 X E.N Q a' w' → Qe .normal a' w') : wpAny P .any oa Qe oa.size (Array.replicate oa.size false) a c.w := by
  have hmono : ∀ {l : List Oper} {fr : Fr} {hp : List AO} {nx : Nat} {K K' : Post}, (∀ fr hp nx, K fr hp nx → K' fr hp nx) → runOps E oa.toList l fr hp nx K → runOps E oa.toList l fr hp nx K' := fun hm hk => runOps_mono hm _ hk
  have hG := h
  unfold drawRun at hk
  split at hk
  · unfold runDraw0 at hk
    obtain ⟨c2, hw2, hG2⟩ := addVoids (news (bef oa.toList) (oa.toList.map (hsen E)) 0 oa.toList) hG
    obtain ⟨V, F, H, M, S, D, O, hF, hH, hM, hS, hD, hQ, hs⟩ := runDraw_seq _ 0 nx [] (voids_ok _ hk)
    simp only [Nat.zero_add] at hQ
    have := any_ok (P := P) (Qe := Qe) (W0 := W0) (X := X) hE hd (q := oa.toList.length) (Nat.le_refl _) (fun k h1 h2 => absurd h2 (by omega)) (by rw [List.take_length]; exact hs) hD
      (fun fuel listed a w _ hsz _ hon _ hc => by
        obtain ⟨c', rfl, hG'⟩ := hc
        exact any_none (ready_none hsz hon) (hq _ _ ⟨c', _, _, _, rfl, hG', hQ⟩) fuel)
      oa.size (Array.replicate oa.size false) a c2.w (by simp) ⟨c2, fr, _, 0, inv0 hG2 hF hH hM⟩
    rw [hw2] at this
    exact this
  · rename_i pre s1 s2 ht
    obtain ⟨n, hn, rfl, h1, h2, hall⟩ := tail2_ok ht
    unfold runDraw0 at hk
    obtain ⟨c2, hw2, hG2⟩ := addVoids (news (bef oa.toList) (oa.toList.map (hsen E)) 0 (oa.toList.take n)) hG
    obtain ⟨V, F, H, M, S, D, O, hF, hH, hM, hS, hD, hQ, hs⟩ := runDraw_seq _ 0 nx [] (voids_ok _ hk)
    have hln : (oa.toList.take n).length = n := by rw [List.length_take]; omega
    simp only [Nat.zero_add, hln] at hQ
    have r1 : runOps E oa.toList [s1, s2] (F n) (flushL (D n) (H n)) (M n) Q := hmono (fun fr1 hp1 nx1 hb => (both_out hb).2) hQ
    have r2 : runOps E oa.toList [s2, s1] (F n) (flushL (D n) (H n)) (M n) Q := by
      obtain ⟨fr1, hp1, nx1, hb⟩ := runOps_some [s1, s2] hQ
      obtain ⟨p1, p2⟩ := both_out hb
      refine hmono (fun fr2 hp2 nx2 hal => ?_) p1
      obtain ⟨rfl, rfl, rfl⟩ := alike_out hal
      exact p2
    have := any_ok (P := P) (Qe := Qe) (W0 := W0) (X := X) hE hd (q := n) (by omega) (fun k hk1 hk2 j hj => by
        rcases (by omega : k = n ∨ k = n + 1) with rfl | rfl
        · exact (hall j hj).1
        · exact (hall j hj).2) hs hD
      (fun fuel listed a w hcnt hsz _ hon hoff hc => by
        obtain ⟨c', rfl, hG'⟩ := hc
        exact lasts_ok hE hd hn h1 h2 hsz hon hoff hG' hq r1 r2 fuel hcnt)
      oa.size (Array.replicate oa.size false) a c2.w (by simp) ⟨c2, fr, _, 0, inv0 hG2 hF hH hM⟩
    rw [hw2] at this
    exact this
end

end Go.Proofs.Ythlkhjfilfdpiaa.Eng
