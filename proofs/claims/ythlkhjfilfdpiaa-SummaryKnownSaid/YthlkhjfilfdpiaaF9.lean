/- ENGINE 2, 9: any order of a region comes to what the lexical one comes to. -/
import Derived.Test.YthlkhjfilfdpiaaF8
namespace Go.Proofs.Ythlkhjfilfdpiaa.Eng
set_option linter.unusedVariables false
set_option linter.unusedSimpArgs false
open Go Go.RowKit

/-! ### Who comes first -/
theorem befGo_spec : ∀ (l : List Oper) (acc : List (List Nat)), (befGo acc l).length = acc.length + l.length ∧ (∀ i, i < acc.length → (befGo acc l).getD i [] = acc.getD i []) ∧
    ∀ j o, l[j]? = some o → (befGo acc l).getD (acc.length + j) [] = ((o.after.toList.filter fun e => Region.binds .any e).flatMap fun e => e.on :: ((befGo acc l).take (acc.length + j)).getD e.on [])
  | [], acc => ⟨rfl, fun _ _ => rfl, fun j o h => by cases h⟩
  | o :: r, acc => by
    obtain ⟨x, hx⟩ : ∃ x, x = ((o.after.toList.filter fun e => Region.binds .any e).flatMap fun e => e.on :: acc.getD e.on []) := ⟨_, rfl⟩
    have ih := befGo_spec r (acc ++ [x])
    obtain ⟨h1, h2, h3⟩ := ih
    simp only [List.length_append, List.length_cons, List.length_nil, Nat.zero_add] at h1 h2 h3
    have hgo : befGo acc (o :: r) = befGo (acc ++ [x]) r := by rw [hx]; rfl
    rw [hgo]
    refine ⟨by rw [h1, List.length_cons]; omega, fun i hi => ?_, fun j p hj => ?_⟩
    · rw [h2 i (by omega)]
      simp [List.getD, List.getElem?_append_left hi]
    · have htake : (befGo (acc ++ [x]) r).take acc.length = acc := by
        refine List.ext_getElem? fun k => ?_
        rw [List.getElem?_take]
        split
        · rename_i hk
          have := h2 k (by omega)
          have hl : k < (befGo (acc ++ [x]) r).length := by omega
          simp only [List.getD, List.getElem?_append_left hk] at this
          rw [List.getElem?_eq_getElem hl, List.getElem?_eq_getElem hk] at this ⊢
          simpa using this
        · rename_i hk
          exact (List.getElem?_eq_none (by omega)).symm
      cases j with
      | zero =>
        have hop : o = p := by simpa using hj
        subst hop
        have := h2 acc.length (by omega)
        rw [Nat.add_zero, this, htake, ← hx]
        simp [List.getD]
      | succ j =>
        have := h3 j p (by simpa using hj)
        rw [show acc.length + (j + 1) = acc.length + 1 + j by omega]
        exact this

section
variable {ops : List Oper}

/-- An operation is there. -/
def On (listed : Array Bool) (i : Nat) : Prop := listed.getD i false = true
/-- Whoever is there, what it waits for is there. -/
def Closed (ops : List Oper) (listed : Array Bool) : Prop := ∀ i o, ops[i]? = some o → On listed i → ∀ e ∈ o.after, Region.binds .any e = true → On listed e.on

theorem bef_on {listed : Array Bool} (hc : Closed ops listed) : ∀ (n i : Nat), i ≤ n → ∀ o, ops[i]? = some o → (∀ e ∈ o.after, Region.binds .any e = true → On listed e.on) → ∀ j ∈ (bef ops).getD i [], On listed j := by
  intro n
  induction n with
  | zero =>
    intro i hi o ho hall j hj
    obtain rfl : i = 0 := by omega
    have := (befGo_spec ops []).2.2 0 o ho
    simp only [List.length_nil, Nat.zero_add, List.take_zero] at this
    unfold bef at hj
    rw [this, List.mem_flatMap] at hj
    obtain ⟨e, he, hj⟩ := hj
    rw [List.mem_filter] at he
    rcases List.mem_cons.1 hj with rfl | hj
    · exact hall e (by simpa using he.1) he.2
    · simp at hj
  | succ n ih =>
    intro i hi o ho hall j hj
    have := (befGo_spec ops []).2.2 i o ho
    simp only [List.length_nil, Nat.zero_add] at this
    unfold bef at hj
    rw [this, List.mem_flatMap] at hj
    obtain ⟨e, he, hj⟩ := hj
    rw [List.mem_filter] at he
    have hon := hall e (by simpa using he.1) he.2
    rcases List.mem_cons.1 hj with rfl | hj
    · exact hon
    · have hlt : e.on < i := by
        rcases Nat.lt_or_ge e.on i with h | h
        · exact h
        · simp [List.getD, List.getElem?_take, show ¬ e.on < i by omega] at hj
      have hj' : j ∈ (bef ops).getD e.on [] := by
        simpa [List.getD, List.getElem?_take, hlt, bef] using hj
      have hi' : i < ops.length := (List.getElem?_eq_some_iff.1 ho).1
      exact ih e.on (by omega) ops[e.on] (List.getElem?_eq_getElem (by omega)) (hc e.on _ (List.getElem?_eq_getElem (by omega)) hon) j hj'

/-- What 'drawOk' says. -/
theorem drawOk_edge (h : drawOk ops = true) {i : Nat} {o : Oper} (ho : ops[i]? = some o) {e : Edge} (he : e ∈ o.after) (hb : Region.binds .any e = true) : e.on < i := by
  unfold drawOk at h
  rw [List.all_eq_true] at h
  have := h (o, i) (by rw [List.mem_zipIdx_iff_getElem?]; exact ho)
  simp only [Bool.and_eq_true] at this
  have h1 := this.1
  rw [List.all_eq_true] at h1
  have := h1 e (by simpa using he)
  simpa [hb, Nat.blt_eq] using this
theorem drawOk_pair (h : drawOk ops = true) {i k : Nat} {oi ok : Oper} (hi : ops[i]? = some oi) (hk : ops[k]? = some ok) : pairOk (bef ops) ops i k oi ok = true := by
  unfold drawOk at h
  rw [List.all_eq_true] at h
  have := h (oi, i) (by rw [List.mem_zipIdx_iff_getElem?]; exact hi)
  simp only [Bool.and_eq_true] at this
  have h1 := this.2
  rw [List.all_eq_true] at h1
  exact h1 (ok, k) (by rw [List.mem_zipIdx_iff_getElem?]; exact hk)
theorem dst_ne (h : drawOk ops = true) {i k : Nat} {oi ok : Oper} (hi : ops[i]? = some oi) (hk : ops[k]? = some ok) {t : Nat} (hti : oi.dst = some t) (htk : ok.dst = some t) : i = k := by
  have := drawOk_pair h hi hk
  unfold pairOk at this
  simp only [htk, Bool.and_eq_true, Bool.or_eq_true] at this
  rcases this.1 with h | h
  · exact Nat.eq_of_beq_eq_true h
  · simp [hti] at h
theorem dst_read (h : drawOk ops = true) {i k : Nat} {oi ok : Oper} (hi : ops[i]? = some oi) (hk : ops[k]? = some ok) {t : Nat} (htk : ok.dst = some t) (hr : t ∈ lookAt ops oi) :
    (k < i ∧ k ∈ (bef ops).getD i []) ∨ (i < k ∧ i ∈ (bef ops).getD k []) := by
  have := drawOk_pair h hi hk
  unfold pairOk at this
  simp only [htk, Bool.and_eq_true, Bool.or_eq_true] at this
  rcases this.2 with (h | h) | h
  · simp [hr] at h
  · exact .inl ⟨by simpa [Nat.blt_eq] using h.1, by simpa using h.2⟩
  · exact .inr ⟨by simpa [Nat.blt_eq] using h.1, by simpa using h.2⟩

theorem barrier_spec {tab : List (List Nat)} {hs : List Bool} {i : Nat} (h : barrier tab hs i = true) : hs.getD i false = true ∧ (∀ j, j < i → hs.getD j false = true → j ∈ tab.getD i []) ∧ ∀ j, i < j → j < tab.length → hs.getD j false = true → i ∈ tab.getD j [] := by
  unfold barrier at h
  simp only [Bool.and_eq_true, List.all_eq_true] at h
  refine ⟨h.1.1, fun j hj hh => ?_, fun j hij hj hh => ?_⟩
  · have := h.1.2 j (by simpa using hj)
    simp only [hh, Bool.not_true, Bool.false_or] at this
    simpa using this
  · have := h.2 (tab[j], j) (by rw [List.mem_zipIdx_iff_getElem?]; simp [hj])
    simp only [hh, Bool.not_true, Bool.or_false, Bool.or_eq_true] at this
    rcases this with h | h
    · have := Nat.le_of_ble_eq_true h; omega
    · simpa [List.getD, hj] using h

/-! ### The lexical run, operation by operation -/
def flushL : List (Nat × AO) → List AO → List AO
  | [], hp => hp
  | (i, o) :: r, hp => flushL r (hp.set i o)
theorem flushK_ok : ∀ (pd : List (Nat × AO)) {hp : List AO} {K : List AO → Prop}, flushK pd hp K → K (flushL pd hp)
  | [], hp, K, h => h
  | (i, o) :: r, hp, K, h => flushK_ok r (setK_ok hp h).2

theorem slotO_loc {E : Env} {all : List Oper} {fr : Fr} {hp : List AO} {sl : Nat} {o : Oper} {K : Fr → AO → Prop} (h : slotO E fr hp sl o K) :
    ∃ v ob, K (putF o.dst v fr) ob ∧ getAO hp sl = .void ∧ ∀ fr', Agree all o fr fr' → obs fr' true o.op.operands.toList True ∧ evalOp E (opd fr') hp sl o.op = .new v ob ∧ putK E.N fr' o.dst v (fun fr => fr = putF o.dst v fr') := by
  unfold slotO at h
  split at h
  · rename_i v ob hv he
    have h1 := force_ok v (obs_K _ h)
    have h2 := forceO_ok ob h1
    refine ⟨v, ob, (putK_F h2).1, hv, fun fr' ha => ?_⟩
    have hr : ∀ z ∈ o.op.operands.toList, raw fr' z = raw fr z := fun z hz => raw_agree ha z hz
    refine ⟨obs_loc _ hr h fun _ => trivial, ?_, (putK_F h2).2 fr' _ rfl⟩
    rw [← he]
    exact evalOp_congr o.op fun z hz => by unfold opd; rw [hr z hz]
  · exact Stuck.out h

structure Seq (E : Env) (all : List Oper) (tab : List (List Nat)) (hs : List Bool) (i : Nat) (l : List Oper) (V : Nat → AV) (F : Nat → Fr) (H : Nat → List AO) (M S : Nat → Nat) (D : Nat → List (Nat × AO)) (O : Nat → AO) : Prop where
  f : ∀ j o, l[j]? = some o → F (i + j + 1) = putF o.dst (V (i + j)) (F (i + j))
  pu : ∀ j o, l[j]? = some o → barrier tab hs (i + j) = false → isNew o = false → H (i + j + 1) = H (i + j) ∧ M (i + j + 1) = M (i + j) ∧ S (i + j + 1) = S (i + j) ∧ D (i + j + 1) = D (i + j) ∧
    ∀ fr', Agree all o (F (i + j)) fr' → stepG E true all o fr' (H (i + j)) (M (i + j)) (To o.dst (V (i + j)) fr' (H (i + j)) (M (i + j)))
  nw : ∀ j o, l[j]? = some o → barrier tab hs (i + j) = false → isNew o = true → H (i + j + 1) = H (i + j) ∧ M (i + j + 1) = M (i + j) ∧ S (i + j + 1) = S (i + j) + 1 ∧ D (i + j + 1) = D (i + j) ++ [(S (i + j), O (i + j))] ∧ getAO (H (i + j)) (S (i + j)) = .void ∧
    ∀ fr', Agree all o (F (i + j)) fr' → obs fr' true o.op.operands.toList True ∧ evalOp E (opd fr') (H (i + j)) (S (i + j)) o.op = .new (V (i + j)) (O (i + j)) ∧ putK E.N fr' o.dst (V (i + j)) (fun fr => fr = putF o.dst (V (i + j)) fr')
  br : ∀ j o, l[j]? = some o → barrier tab hs (i + j) = true → S (i + j + 1) = S (i + j) ∧ D (i + j + 1) = [] ∧
    ∀ fr', Agree all o (F (i + j)) fr' → stepG E false all o fr' (flushL (D (i + j)) (H (i + j))) (M (i + j)) (To o.dst (V (i + j)) fr' (H (i + j + 1)) (M (i + j + 1)))

def upTo {α : Type} (G : Nat → α) (i : Nat) (x : α) : Nat → α := fun n => if n = i then x else G n
theorem upTo_at {α : Type} (G : Nat → α) (i : Nat) (x : α) : upTo G i x i = x := if_pos rfl
theorem upTo_in {α : Type} (G : Nat → α) (i : Nat) (x : α) (j : Nat) : upTo G i x (i + 1 + j) = G (i + 1 + j) := if_neg (by omega)
theorem upTo_in1 {α : Type} (G : Nat → α) (i : Nat) (x : α) (j : Nat) : upTo G i x (i + 1 + j + 1) = G (i + 1 + j + 1) := if_neg (by omega)
theorem upTo_1 {α : Type} (G : Nat → α) (i : Nat) (x : α) : upTo G i x (i + 1) = G (i + 1) := if_neg (by omega)

theorem runDraw_seq {E : Env} {all : List Oper} {tab : List (List Nat)} {hs : List Bool} : ∀ (l : List Oper) (i sl : Nat) (pd : List (Nat × AO)) {fr : Fr} {hp : List AO} {nx : Nat} {Q : Post}, runDraw E all tab hs i l sl pd fr hp nx Q →
    ∃ V F H M S D O, F i = fr ∧ H i = hp ∧ M i = nx ∧ S i = sl ∧ D i = pd ∧ Q (F (i + l.length)) (flushL (D (i + l.length)) (H (i + l.length))) (M (i + l.length)) ∧ Seq E all tab hs i l V F H M S D O
  | [], i, sl, pd, fr, hp, nx, Q, hk => ⟨fun _ => .u, fun _ => fr, fun _ => hp, fun _ => nx, fun _ => sl, fun _ => pd, fun _ => .dead, rfl, rfl, rfl, rfl, rfl, flushK_ok pd hk,
      ⟨fun j o h => (by simp at h), fun j o h => (by simp at h), fun j o h => (by simp at h), fun j o h => (by simp at h)⟩⟩
  | o :: r, i, sl, pd, fr, hp, nx, Q, hk => by
    -- what comes of the rest
    have build : ∀ (v : AV) (hp' : List AO) (nx' sl' : Nat) (pd' : List (Nat × AO)) (ob : AO), runDraw E all tab hs (i + 1) r sl' pd' (putF o.dst v fr) hp' nx' Q →
        (barrier tab hs i = false → isNew o = false → hp' = hp ∧ nx' = nx ∧ sl' = sl ∧ pd' = pd ∧ ∀ fr', Agree all o fr fr' → stepG E true all o fr' hp nx (To o.dst v fr' hp nx)) →
        (barrier tab hs i = false → isNew o = true → hp' = hp ∧ nx' = nx ∧ sl' = sl + 1 ∧ pd' = pd ++ [(sl, ob)] ∧ getAO hp sl = .void ∧ ∀ fr', Agree all o fr fr' → obs fr' true o.op.operands.toList True ∧ evalOp E (opd fr') hp sl o.op = .new v ob ∧ putK E.N fr' o.dst v (fun fr => fr = putF o.dst v fr')) →
        (barrier tab hs i = true → sl' = sl ∧ pd' = [] ∧ ∀ fr', Agree all o fr fr' → stepG E false all o fr' (flushL pd hp) nx (To o.dst v fr' hp' nx')) →
        ∃ V F H M S D O, F i = fr ∧ H i = hp ∧ M i = nx ∧ S i = sl ∧ D i = pd ∧ Q (F (i + (o :: r).length)) (flushL (D (i + (o :: r).length)) (H (i + (o :: r).length))) (M (i + (o :: r).length)) ∧ Seq E all tab hs i (o :: r) V F H M S D O := by
      intro v hp' nx' sl' pd' ob hK h1 h2 h3
      obtain ⟨V, F, H, M, S, D, O, hF, hH, hM, hS, hD, hQ, ⟨sf, sp, sn, sb⟩⟩ := runDraw_seq r (i + 1) sl' pd' hK
      refine ⟨upTo V i v, upTo F i fr, upTo H i hp, upTo M i nx, upTo S i sl, upTo D i pd, upTo O i ob, upTo_at _ _ _, upTo_at _ _ _, upTo_at _ _ _, upTo_at _ _ _, upTo_at _ _ _, ?_, ⟨?_, ?_, ?_, ?_⟩⟩
      · simp only [List.length_cons, show i + (r.length + 1) = i + 1 + r.length by omega, upTo_in]
        exact hQ
      · intro j p hj
        cases j with
        | zero =>
          have : o = p := by simpa using hj
          subst this
          simp [upTo_at, upTo_1, hF]
        | succ j =>
          have := sf j p (by simpa using hj)
          simp only [show i + (j + 1) + 1 = i + 1 + (j + 1) by omega, show i + (j + 1) = i + 1 + j by omega, upTo_in, upTo_in1]
          exact this
      · intro j p hj hb hn
        cases j with
        | zero =>
          have : o = p := by simpa using hj
          subst this
          obtain ⟨e1, e2, e3, e4, e5⟩ := h1 hb hn
          subst e1 e2 e3 e4
          simp only [Nat.add_zero, upTo_at, upTo_1, hH, hM, hS, hD]
          exact ⟨trivial, trivial, trivial, trivial, e5⟩
        | succ j =>
          have := sp j p (by simpa using hj) (by rw [show i + 1 + j = i + (j + 1) by omega]; exact hb) hn
          simp only [show i + (j + 1) + 1 = i + 1 + (j + 1) by omega, show i + (j + 1) = i + 1 + j by omega, upTo_in, upTo_in1]
          exact this
      · intro j p hj hb hn
        cases j with
        | zero =>
          have : o = p := by simpa using hj
          subst this
          obtain ⟨e1, e2, e3, e4, e5, e6⟩ := h2 hb hn
          subst e1 e2 e3 e4
          simp only [Nat.add_zero, upTo_at, upTo_1, hH, hM, hS, hD]
          exact ⟨trivial, trivial, trivial, trivial, e5, e6⟩
        | succ j =>
          have := sn j p (by simpa using hj) (by rw [show i + 1 + j = i + (j + 1) by omega]; exact hb) hn
          simp only [show i + (j + 1) + 1 = i + 1 + (j + 1) by omega, show i + (j + 1) = i + 1 + j by omega, upTo_in, upTo_in1]
          exact this
      · intro j p hj hb
        cases j with
        | zero =>
          have : o = p := by simpa using hj
          subst this
          obtain ⟨e3, e4, e5⟩ := h3 hb
          subst e3 e4
          simp only [Nat.add_zero, upTo_at, upTo_1, hH, hM, hS, hD]
          exact ⟨trivial, trivial, e5⟩
        | succ j =>
          have := sb j p (by simpa using hj) (by rw [show i + 1 + j = i + (j + 1) by omega]; exact hb)
          simp only [show i + (j + 1) + 1 = i + 1 + (j + 1) by omega, show i + (j + 1) = i + 1 + j by omega, upTo_in, upTo_in1]
          exact this
    unfold runDraw at hk
    cases hb : barrier tab hs i with
    | true =>
      rw [hb] at hk
      simp only [cond_true] at hk
      obtain ⟨v, hp', nx', hK, _, hs⟩ := stepG_loc (all := all) (flushK_ok pd hk)
      exact build v hp' nx' sl [] .dead hK (fun h => by rw [hb] at h; cases h) (fun h => by rw [hb] at h; cases h) (fun _ => ⟨rfl, rfl, hs⟩)
    | false =>
      rw [hb] at hk
      simp only [cond_false] at hk
      cases hn : isNew o with
      | true =>
        rw [hn] at hk
        simp only [cond_true] at hk
        obtain ⟨v, ob, hK, hv, hs⟩ := slotO_loc (all := all) hk
        exact build v hp nx (sl + 1) _ ob hK (fun _ h => by rw [hn] at h; cases h) (fun _ _ => ⟨rfl, rfl, rfl, rfl, hv, hs⟩) (fun h => by rw [hb] at h; cases h)
      | false =>
        rw [hn] at hk
        simp only [cond_false] at hk
        obtain ⟨v, hp', nx', hK, hd, hs⟩ := stepG_loc (all := all) hk
        obtain ⟨rfl, rfl⟩ := hd rfl
        exact build v hp' nx' sl pd .dead hK (fun _ _ => ⟨rfl, rfl, rfl, rfl, hs⟩) (fun _ h => by rw [hn] at h; cases h) (fun h => by rw [hb] at h; cases h)
end

end Go.Proofs.Ythlkhjfilfdpiaa.Eng
