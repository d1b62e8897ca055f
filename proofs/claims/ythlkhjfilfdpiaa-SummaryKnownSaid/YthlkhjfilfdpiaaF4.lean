/- ENGINE 2, 4: own objects that come, turn and go; what callees do. -/
import Derived.Test.YthlkhjfilfdpiaaF3
namespace Go.Proofs.Ythlkhjfilfdpiaa.Eng
set_option linter.unusedVariables false
set_option linter.unusedSimpArgs false
open Go Go.RowKit

/-- What a callee does to what is there. -/
structure Ext (c c' : Cx) : Prop where
  os : c'.w.os = c.w.os
  tp : c'.w.tape = c.w.tape
  ou : c'.w.output = c.w.output
  sz : c.w.heap.size ≤ c'.w.heap.size
  n : c.n ≤ c'.n
  loc : ∀ i b, i < c.n → c.loc i = some b → c'.loc i = some b
  val : ∀ i, i < c.n → c.val i ≠ .bool false → c'.val i = c.val i ∧ c'.len i = c.len i
  b0 : c'.b0 = c.b0
  keep : ∀ b, b < c.w.heap.size → (∀ i, i < c.n → c.key i ≠ some b) → c'.w.heap[b]? = c.w.heap[b]?
  O1 : ∀ b, b < c.w.heap.size → c'.O b → c.O b
  O2 : ∀ b, c.O b → (∀ i, i < c.n → c.key i ≠ some b) → c'.O b
  key : ∀ i b, i < c'.n → c'.key i = some b → b < c.w.heap.size → ∃ j, j < c.n ∧ c.key j = some b
  dr : c.w.drawn ≤ c'.w.drawn

/-- A callee's word. -/
def CallOk (P : Program) (call : FuncId → Con) : Prop :=
  ∀ f l hp r, call f l hp = some r → r.pre → ∀ (c : Cx) (args : Array Value), sat l c args.toList → Obs c hp →
    (∃ fn : Func, P.funcs[f]? = some fn ∧ fn.body.isSome = true ∧ fn.name ≠ "runtime.NumGoroutine") ∧
    Calls P f args c.w fun e w' => ∃ x c', e = .returned x ∧ c'.w = w' ∧ Ext c c' ∧ Obs c' (r.lent ++ r.new) ∧ r.lent.length = hp.length ∧ sat r.res c' [x]

def OKv (P : Program) (c : Cx) (a : Act) (o : Oper) (v : AV) : Prop := ∃ x, (execOp a.eval o).run P c.w = .ok (.value x) c.w ∧ sat v c [x]

def GoodR (P : Program) (W0 : World) (X : Bd) (N : Nat) (c : Cx) (fr : Fr) (hp : List AO) (nx : Nat) (a : Act) (o : Oper) : R → Prop
  | .no => True
  | .ok v => OKv P c a o v
  | .ob p v => p → OKv P c a o v
  | .call r => r.pre → ∃ f args, (execOp a.eval o).run P c.w = .ok (.enter f args) c.w ∧
      Calls P f args c.w fun e w' => ∃ x, e = .returned x ∧ BelowD c.w.heap.size c.w w' ∧ sat r.res (c.to w') [x]
  | .new v ob => ∃ x c', (execOp a.eval o).run P c.w = .ok (.value x) c'.w ∧ Gam W0 X N c' fr (hp ++ [ob]) (nx + 1) a ∧ sat v c' [x]
  | .set v i ob => i < hp.length → ∃ c', (execOp a.eval o).run P c.w = .ok .skip c'.w ∧ Gam W0 X N c' fr (hp.set i ob) nx a ∧ v = .u
  | .upd v i ob => i < hp.length → ∃ x c', (execOp a.eval o).run P c.w = .ok (.value x) c'.w ∧ Gam W0 X N c' fr (hp.set i ob) nx a ∧ sat v c' [x]
  | .act 0 p v hp' => p → ∃ c', (execOp a.eval o).run P c.w = .ok .skip c'.w ∧ Gam W0 X N c' fr hp' hp'.length a ∧ v = .u
  | .act 1 p v hp' => p → ∃ x c', (execOp a.eval o).run P c.w = .ok (.value x) c'.w ∧ Gam W0 X N c' fr hp' hp'.length a ∧ sat v c' [x]
  | .act _ p v hp' => p → ∃ f args, (execOp a.eval o).run P c.w = .ok (.enter f args) c.w ∧
      Calls P f args c.w fun e w' => ∃ x c', e = .returned x ∧ c'.w = w' ∧ Gam W0 X N c' fr hp' hp'.length a ∧ sat v c' [x]

section
variable {P : Program} {W0 : World} {X : Bd} {N : Nat} {c : Cx} {fr : Fr} {hp : List AO} {nx : Nat} {a : Act} {o : Oper} {ρ : Operand → AV}

theorem lift_good {x : Option AV} {f : AV → R} (h : ∀ v, x = some v → GoodR P W0 X N c fr hp nx a o (f v)) : GoodR P W0 X N c fr hp nx a o (lift x f) := by
  cases x with
  | none => trivial
  | some v => exact h v rfl

def updF {α : Type} (f : Nat → α) (i : Nat) (x : α) : Nat → α := fun j => if j = i then x else f j
theorem updF_at {α : Type} (f : Nat → α) (i : Nat) (x : α) : updF f i x i = x := if_pos rfl
theorem updF_ne {α : Type} (f : Nat → α) {i j : Nat} (x : α) (h : j ≠ i) : updF f i x j = f j := if_neg h

def At0 (v : Value) : Prop := v.oneCell' = true ∧ ∀ A n m, v = .slice A n m → 0 < n → ∃ b, A = some ⟨b, 0, none⟩
theorem at0_bool (b : Bool) : At0 (.bool b) := ⟨rfl, fun _ _ _ h => by cases h⟩
theorem at0_slice (g n m : Nat) : At0 (.slice (some ⟨g, 0, none⟩) n m) := ⟨rfl, fun _ _ _ h _ => by injection h with h; exact ⟨g, h.symm⟩⟩
theorem at0_nil (A : Option Addr) (m : Nat) : At0 (.slice A 0 m) := ⟨rfl, fun _ _ _ h hn => by injection h with _ h; omega⟩

/-- An own object more, or one at a place that was kept: its block is new, or one that nobody holds. -/
def Cx.add (c : Cx) (w' : World) (ix : Nat) (k lo : Option Nat) (v : Value) (ln n' : Nat) (hv : At0 v) : Cx :=
  ⟨w', updF c.key ix k, updF c.loc ix lo, updF c.val ix v, updF c.len ix ln, n', fun b => c.O b ∨ k = some b, c.b0, fun i => by unfold updF; split; exact hv.1; exact c.one i, fun i A n m => by unfold updF; split; exact hv.2 A n m; exact c.at0 i A n m⟩

theorem Gam.add (h : Gam W0 X N c fr hp nx a) {w' : World} {ix n' ln : Nat} {k lo : Option Nat} {v : Value} {hv : At0 v} {hp' : List AO} {ob : AO} (B : Nat → Prop)
    (hix : (ix = c.n ∧ n' = c.n + 1 ∧ hp' = hp ++ [ob]) ∨ (hp[ix]? = some .void ∧ n' = c.n ∧ hp' = hp.set ix ob))
    (hB : ∀ b, B b → c.O b ∧ (∀ i, i < c.n → c.key i ≠ some b) ∧ (b < W0.heap.size → X.x b))
    (hw : c.w.heap.size ≤ w'.heap.size) (hb : ∀ b, b < c.w.heap.size → ¬ B b → w'.heap[b]? = c.w.heap[b]?) (os : w'.os = c.w.os) (tp : w'.tape = c.w.tape) (ou : w'.output = c.w.output)
    (hk : ∀ g, k = some g → g < w'.heap.size ∧ (c.w.heap.size ≤ g ∨ B g)) (hob : osat ob (c.add w' ix k lo v ln n' hv) ix) (dr : c.w.drawn ≤ w'.drawn := by first | exact Nat.le_refl _ | exact Nat.le_succ _) :
    Gam W0 X N (c.add w' ix k lo v ln n' hv) fr hp' hp'.length a ∧ Step c (c.add w' ix k lo v ln n' hv) := by
  have nc := h.nc
  have hvoid : ix < c.n → c.key ix = none ∧ c.loc ix = none ∧ c.val ix = .bool false := fun hlt => by
    rcases hix with ⟨e, _⟩ | ⟨e, _⟩
    · omega
    · exact h.o ix _ e
  have hn : c.n ≤ n' := by rcases hix with ⟨_, e, _⟩ | ⟨_, e, _⟩ <;> omega
  have hlen : n' = hp'.length := by rcases hix with ⟨_, e, e'⟩ | ⟨_, e, e'⟩ <;> (subst e'; simp; omega)
  have hnew : ∀ b, c.O b → (∃ i, i < c.n ∧ c.key i = some b) ∨ True := fun _ _ => .inr trivial
  have st : Step c (c.add w' ix k lo v ln n' hv) := by
    refine ⟨hn, fun i b hi hl => ?_, fun i hi hne => ?_, fun b hO hlt h' => ?_, hw, fun b hO hlt => hb b hlt (fun hBb => hO (hB b hBb).1), Nat.le_refl _⟩
    · exact (updF_ne _ _ (fun e => by rw [e, (hvoid (e ▸ hi)).2.1] at hl; cases hl)).trans hl
    · have : i ≠ ix := fun e => hne (by rw [e]; exact (hvoid (e ▸ hi)).2.2)
      exact ⟨updF_ne _ _ this, updF_ne _ _ this⟩
    · rcases h' with h' | h'
      · exact hO h'
      · rcases (hk b h').2 with h2 | h2
        · omega
        · exact hO (hB b h2).1
  have hnokey : ∀ g, k = some g → ∀ i, i < c.n → c.key i ≠ some g := fun g hg i hi e => by
    rcases (hk g hg).2 with h2 | h2
    · have := (h.ob.kb i g hi e).2; omega
    · exact (hB g h2).2.1 i hi e
  have hold : ∀ i b, i < n' → i ≠ ix → updF c.key ix k i = some b → i < c.n ∧ c.key i = some b := fun i b hi hne hkk => by
    rw [updF_ne _ _ hne] at hkk
    refine ⟨?_, hkk⟩
    rcases hix with ⟨e1, e2, _⟩ | ⟨_, e2, _⟩ <;> omega
  refine ⟨h.turn st ⟨hlen, fun i o ho => ?_, fun i j b hi hj h1 h2 => ?_, fun i b hi hkk => ?_, fun b hO => ?_, Nat.le_trans h.ob.bz hw⟩ (fun i b hi hkk hlt => ?_) (fun b hy => .inl (h.oo b hy)) (fun b hO hlt => ?_) os tp ou (fun b hlt hX => ?_) dr, st⟩
  · by_cases hi : i = ix
    · subst hi
      have : o = ob := by
        rcases hix with ⟨e1, _, e3⟩ | ⟨e1, _, e3⟩
        · rw [e3, e1, nc] at ho; simpa using ho.symm
        · rw [e3] at ho
          have hl := (List.getElem?_eq_some_iff.1 e1).1
          simpa [hl] using ho.symm
      rw [this]; exact hob
    · have ho' : hp[i]? = some o := by
        rcases hix with ⟨e1, _, e3⟩ | ⟨e1, _, e3⟩
        · rw [e3] at ho
          have hl := (List.getElem?_eq_some_iff.1 ho).1
          simp at hl
          rw [List.getElem?_append_left (by omega)] at ho
          exact ho
        · rw [e3, List.getElem?_set_ne (fun e => hi e.symm)] at ho; exact ho
      have hil : i < c.n := by have := (List.getElem?_eq_some_iff.1 ho').1; omega
      exact osat_keep st hil (updF_ne _ _ hi) (fun e => (updF_ne _ _ hi).trans e) ⟨updF_ne _ _ hi, updF_ne _ _ hi⟩ (fun b hkb => hb b (h.ob.kb i b hil hkb).2 (fun hBb => (hB b hBb).2.1 i hil hkb)) (h.o i o ho')
  · by_cases hin : i = ix <;> by_cases hjn : j = ix
    · omega
    · subst hin
      obtain ⟨hj', h2'⟩ := hold j b hj hjn h2
      exact absurd h2' (hnokey b ((updF_at _ _ _).symm.trans h1) j hj')
    · subst hjn
      obtain ⟨hi', h1'⟩ := hold i b hi hin h1
      exact absurd h1' (hnokey b ((updF_at _ _ _).symm.trans h2) i hi')
    · obtain ⟨hi', h1'⟩ := hold i b hi hin h1
      obtain ⟨hj', h2'⟩ := hold j b hj hjn h2
      exact h.ob.dj i j b hi' hj' h1' h2'
  · by_cases hin : i = ix
    · subst hin
      have := (updF_at c.key i k).symm.trans hkk
      exact ⟨.inr this, (hk b this).1⟩
    · obtain ⟨hi', h1'⟩ := hold i b hi hin hkk
      have := h.ob.kb i b hi' h1'
      exact ⟨.inl this.1, Nat.lt_of_lt_of_le this.2 hw⟩
  · rcases hO with hO | hO
    · exact Nat.lt_of_lt_of_le (h.ol b hO) hw
    · exact (hk b hO).1
  · by_cases hin : i = ix
    · subst hin
      have := (updF_at c.key i k).symm.trans hkk
      rcases (hk b this).2 with h2 | h2
      · have := h.sz; omega
      · exact (hB b h2).2.2 hlt
    · obtain ⟨hi', h1'⟩ := hold i b hi hin hkk
      exact h.kx i b hi' h1' hlt
  · rcases hO with hO | hO
    · exact h.oz b hO hlt
    · rcases (hk b hO).2 with h2 | h2
      · have := h.sz; omega
      · exact h.oz b (hB b h2).1 hlt
  · exact hb b (by have := h.sz; omega) (fun hBb => hX ((hB b hBb).2.2 hlt))

/-- An own object that is gone: nobody holds its block. -/
theorem Gam.kill (h : Gam W0 X N c fr hp nx a) {j : Nat} (hj : j < c.n) (hcells : c.loc j = none ∨ True) :
    Gam W0 X N { c with key := updF c.key j none } fr (hp.set j .dead) (hp.set j .dead).length a ∧ Step c { c with key := updF c.key j none } ∧ (∀ b, c.key j = some b → ∀ i, i < c.n → updF c.key j none i ≠ some b) := by
  have st : Step c { c with key := updF c.key j none } := ⟨Nat.le_refl _, fun _ _ _ h => h, fun _ _ _ => ⟨rfl, rfl⟩, fun _ h _ => h, Nat.le_refl _, fun _ _ _ => rfl, Nat.le_refl _⟩
  have hold : ∀ i b, updF c.key j none i = some b → i ≠ j ∧ c.key i = some b := fun i b hk => by
    by_cases e : i = j
    · rw [e, updF_at] at hk; cases hk
    · exact ⟨e, (updF_ne _ _ e).symm.trans hk⟩
  refine ⟨h.turn st ⟨by simpa using h.nc, fun i o ho => ?_, fun i k b hi hk h1 h2 => h.ob.dj i k b hi hk (hold _ _ h1).2 (hold _ _ h2).2, fun i b hi hk => h.ob.kb i b hi (hold _ _ hk).2, h.ol, h.ob.bz⟩
    (fun i b hi hk => h.kx i b hi (hold _ _ hk).2) h.oo h.oz rfl rfl rfl (fun _ _ _ => rfl) (Nat.le_refl _), st, fun b hb i hi e => (hold i b e).1 (h.ob.dj i j b hi hj (hold i b e).2 hb)⟩
  by_cases hi : i = j
  · subst hi
    have hl : i < hp.length := by rw [← h.nc]; exact hj
    have : o = .dead := by simpa [hl] using ho.symm
    subst this
    exact updF_at _ _ _
  · rw [List.getElem?_set_ne (fun e => hi e.symm)] at ho
    have hil : i < c.n := by rw [h.nc]; exact (List.getElem?_eq_some_iff.1 ho).1
    exact osat_keep st hil (updF_ne _ _ hi) (fun h => h) ⟨rfl, rfl⟩ (fun _ _ => rfl) (h.o i o ho)

/-- An own row that is only read from now on. -/
theorem row_rl {c c' : Cx} {j : Nat} {q : Bool} {t : Ty} {e : TypeId} {l : List (El t)} (h : rowAt c j q t e l) (kb : ∀ b, c.key j = some b → b < c.w.heap.size) (hw : c'.w = c.w) (hb : c'.b0 ≤ c.b0) (hO : ∀ b, ¬ c.O b → ¬ c'.O b) (hk : ∀ b, c.key j = some b → ¬ c'.O b) : sat (.rl q t l) c' [c.val j] := by
  obtain ⟨h0, h1, hq, xs, h2, h3, h4⟩ := h
  have kp : Keeps c.w c.O (qb q c.b0) c'.w c'.O (qb q c'.b0) := ⟨fun k h _ _ => hO k h, by rw [hw]; exact Nat.le_refl _, fun _ _ _ _ => by rw [hw], fun k _ _ h' => Nat.le_trans (qb_mono id hb) h'⟩
  rcases h3 with ⟨e1, A, e2, e3⟩ | ⟨g, cap, cur, e1, e2, e3, e4, e5, e6, e7⟩
  · subst e1
    exact ⟨A, 0, by rw [e2]; rfl, Nat.zero_le _, fun i y hy => by simp at hy⟩
  · refine ⟨some ⟨g, 0, none⟩, cap, by rw [e1], e4, fun i y hy => ⟨⟨g, 0, none⟩, rfl, rfl, hk g e2, by rw [hw]; exact kb g e2, ?_, (xs.drop (i * tsz t)).take (tsz t), ?_, ?_, memE_keeps kp t y _ (h4 i y hy)⟩⟩
    · cases q with
      | false => exact Nat.zero_le _
      | true => exact Nat.le_trans (qb_le true c'.b0) (Nat.le_trans hb (hq rfl g e2))
    · have hi : i < l.length := (List.getElem?_eq_some_iff.1 hy).1
      have : (i + 1) * tsz t ≤ l.length * tsz t := Nat.mul_le_mul_right _ hi
      rw [Nat.add_mul] at this
      simp; omega
    · intro p v hp
      rw [hw]
      have hp' : xs[i * tsz t + p]? = some v := by
        rw [List.getElem?_take] at hp
        split at hp
        · simpa [List.getElem?_drop] using hp
        · cases hp
      rw [← e7, List.getElem?_take] at hp'
      split at hp'
      · rw [Nat.zero_add, e3.cell]
        simpa using hp'
      · cases hp'

theorem Gam.freeze1 (h : Gam W0 X N c fr hp nx a) {j : Nat} {q : Bool} {t : Ty} {e : TypeId} {l : List (El t)} (hj : hp[j]? = some (.row q t e l)) :
    ∃ c', c'.w = c.w ∧ c'.n = c.n ∧ c'.val = c.val ∧ c'.b0 = c.b0 ∧ (∀ i, i ≠ j → c'.key i = c.key i) ∧ ((∀ i b, c'.key i = some b → c.key i = some b) ∧ ∀ b, c.O b → (∀ i, i < c.n → c.key i ≠ some b) → c'.O b) ∧ Gam W0 X N c' fr (hp.set j (.fz q t l)) (hp.set j (.fz q t l)).length a ∧ Step c c' ∧ sat (.rl q t l) c' [c.val j] := by
  have hjl : j < hp.length := (List.getElem?_eq_some_iff.1 hj).1
  have hjn : j < c.n := by rw [h.nc]; exact hjl
  let c' : Cx := { c with key := updF c.key j none, O := fun b => c.O b ∧ c.key j ≠ some b }
  have st : Step c c' := ⟨Nat.le_refl _, fun _ _ _ h => h, fun _ _ _ => ⟨rfl, rfl⟩, fun _ h _ h' => h h'.1, Nat.le_refl _, fun _ _ _ => rfl, Nat.le_refl _⟩
  have hrow := h.o j _ hj
  have hs : sat (.rl q t l) c' [c.val j] := row_rl (c' := c') hrow (fun b hb => (h.ob.kb j b hjn hb).2) rfl (Nat.le_refl _) (fun b hb h' => hb h'.1) (fun b hb h' => h'.2 hb)
  have hold : ∀ i b, updF c.key j none i = some b → i ≠ j ∧ c.key i = some b := fun i b hk => by
    by_cases e : i = j
    · rw [e, updF_at] at hk; cases hk
    · exact ⟨e, (updF_ne _ _ e).symm.trans hk⟩
  refine ⟨c', rfl, rfl, rfl, rfl, fun i hi => updF_ne _ _ hi, ⟨fun i b h => (hold i b h).2, fun b hO hn => ⟨hO, hn j hjn⟩⟩, h.turn st ⟨by simpa using h.nc, fun i o ho => ?_, fun i k b hi hk h1 h2 => h.ob.dj i k b hi hk (hold _ _ h1).2 (hold _ _ h2).2,
    fun i b hi hk => ⟨⟨(h.ob.kb i b hi (hold _ _ hk).2).1, fun e => (hold _ _ hk).1 (h.ob.dj i j b hi hjn (hold _ _ hk).2 e)⟩, (h.ob.kb i b hi (hold _ _ hk).2).2⟩, fun b hO => h.ol b hO.1, h.ob.bz⟩
    (fun i b hi hk => h.kx i b hi (hold _ _ hk).2) (fun b hy => ⟨h.oo b hy, fun e => (h.xy b hy).2 (h.kx j b hjn e (h.xy b hy).1)⟩) (fun b hO => h.oz b hO.1) rfl rfl rfl (fun _ _ _ => rfl) (Nat.le_refl _), st, hs⟩
  by_cases hi : i = j
  · subst hi
    have : o = .fz q t l := by simpa [hjl] using ho.symm
    subst this
    refine ⟨updF_at _ _ _, hrow.2.1, hs, fun ad n m hv hn => ?_⟩
    obtain ⟨_, _, _, xs, _, h3, _⟩ := hrow
    rcases h3 with ⟨e1, A, e2, e3⟩ | ⟨g, cap, cur, e1, _⟩
    · rw [show c.val i = c'.val i from rfl, hv] at e2
      injection e2 with _ e2; omega
    · rw [show c.val i = c'.val i from rfl, hv] at e1
      injection e1 with e1; injection e1 with e1; rw [e1]
  · rw [List.getElem?_set_ne (fun e => hi e.symm)] at ho
    have hil : i < c.n := by rw [h.nc]; exact (List.getElem?_eq_some_iff.1 ho).1
    exact osat_keep st hil (updF_ne _ _ hi) (fun h => h) ⟨rfl, rfl⟩ (fun _ _ => rfl) (h.o i o ho)

theorem set_self {l : List AO} {i : Nat} : l.set i (getAO l i) = l := by
  refine List.ext_getElem? fun k => ?_
  by_cases h : i = k
  · subst h
    by_cases hl : i < l.length
    · simp [hl, getAO_eq]
    · simp [hl]
  · rw [List.getElem?_set_ne h]

/-- Rows that are only read from now on. -/
theorem Gam.freeze : ∀ (ows : List Nat) {c : Cx} {hp : List AO} {nx : Nat}, Gam W0 X N c fr hp nx a →
    ∃ c', c'.w = c.w ∧ c'.n = c.n ∧ c'.val = c.val ∧ c'.b0 = c.b0 ∧ (∀ i, ¬ i ∈ ows → c'.key i = c.key i) ∧ ((∀ i b, c'.key i = some b → c.key i = some b) ∧ ∀ b, c.O b → (∀ i, i < c.n → c.key i ≠ some b) → c'.O b) ∧ Gam W0 X N c' fr (frz ows hp) (frz ows hp).length a ∧ Step c c' ∧ (frz ows hp).length = hp.length ∧
      (∀ i, ¬ i ∈ ows → getAO (frz ows hp) i = getAO hp i) ∧
      ∀ i ∈ ows, ∀ q t l, ((∃ e, getAO hp i = .row q t e l) ∨ getAO hp i = .fz q t l) → i < c.n → sat (.rl q t l) c' [c.val i]
  | [], c, hp, nx, h => ⟨c, rfl, rfl, rfl, rfl, fun _ _ => rfl, ⟨fun _ _ h => h, fun _ h _ => h⟩, h.nl ▸ h, Step.refl c, rfl, fun _ _ => rfl, fun i hi => by cases hi⟩
  | j :: r, c, hp, nx, h => by
    have one : ∃ c1, c1.w = c.w ∧ c1.n = c.n ∧ c1.val = c.val ∧ c1.b0 = c.b0 ∧ (∀ i, i ≠ j → c1.key i = c.key i) ∧ ((∀ i b, c1.key i = some b → c.key i = some b) ∧ ∀ b, c.O b → (∀ i, i < c.n → c.key i ≠ some b) → c1.O b) ∧ Gam W0 X N c1 fr (setAO hp j (frz1 (getAO hp j))) (setAO hp j (frz1 (getAO hp j))).length a ∧ Step c c1 ∧
        ∀ q t l, ((∃ e, getAO hp j = .row q t e l) ∨ getAO hp j = .fz q t l) → j < c.n → sat (.rl q t l) c1 [c.val j] := by
      rw [setAO_eq]
      cases hg : getAO hp j with
      | row q t e l =>
        have hj : hp[j]? = some (.row q t e l) := by
          rw [getAO_eq] at hg
          cases hq : hp[j]? with
          | none => rw [hq] at hg; cases hg
          | some x => rw [hq] at hg; simpa using hg
        obtain ⟨c1, h1, h2, h3, h4, h5, h5b, h6, h7, h8⟩ := h.freeze1 hj
        refine ⟨c1, h1, h2, h3, h4, h5, h5b, h6, h7, fun q' t' l' hh _ => ?_⟩
        rcases hh with ⟨e', hh⟩ | hh
        · cases hh; exact h8
        · cases hh
      | fz q t l =>
        have hset : hp.set j (frz1 (.fz q t l)) = hp := by
          have := set_self (l := hp) (i := j); rw [hg] at this; exact this
        rw [hset]
        refine ⟨c, rfl, rfl, rfl, rfl, fun _ _ => rfl, ⟨fun _ _ h => h, fun _ h _ => h⟩, h.nl ▸ h, Step.refl c, fun q' t' l' hh hj => ?_⟩
        rcases hh with ⟨e', hh⟩ | hh
        · cases hh
        · cases hh
          have hj' : hp[j]? = some (.fz q t l) := by
            rw [getAO_eq] at hg
            cases hq : hp[j]? with
            | none => rw [hq] at hg; cases hg
            | some x => rw [hq] at hg; simpa using hg
          exact (h.o j _ hj').2.2.1
      | cells l =>
        have hset : hp.set j (frz1 (.cells l)) = hp := by
          have := set_self (l := hp) (i := j); rw [hg] at this; exact this
        rw [hset]
        exact ⟨c, rfl, rfl, rfl, rfl, fun _ _ => rfl, ⟨fun _ _ h => h, fun _ h _ => h⟩, h.nl ▸ h, Step.refl c, fun q' t' l' hh hj => by rcases hh with ⟨e', hh⟩ | hh <;> cases hh⟩
      | dead =>
        have hset : hp.set j (frz1 .dead) = hp := by
          have := set_self (l := hp) (i := j); rw [hg] at this; exact this
        rw [hset]
        exact ⟨c, rfl, rfl, rfl, rfl, fun _ _ => rfl, ⟨fun _ _ h => h, fun _ h _ => h⟩, h.nl ▸ h, Step.refl c, fun q' t' l' hh hj => by rcases hh with ⟨e', hh⟩ | hh <;> cases hh⟩
      | void =>
        have hset : hp.set j (frz1 .void) = hp := by
          have := set_self (l := hp) (i := j); rw [hg] at this; exact this
        rw [hset]
        exact ⟨c, rfl, rfl, rfl, rfl, fun _ _ => rfl, ⟨fun _ _ h => h, fun _ h _ => h⟩, h.nl ▸ h, Step.refl c, fun q' t' l' hh hj => by rcases hh with ⟨e', hh⟩ | hh <;> cases hh⟩
    obtain ⟨c1, w1, n1, v1, b1, k1, kk1, g1, s1, f1⟩ := one
    obtain ⟨c2, w2, n2, v2, b2, k2, kk2, g2, s2, l2, o2, f2⟩ := Gam.freeze r g1
    have hget : ∀ i, i ≠ j → getAO (setAO hp j (frz1 (getAO hp j))) i = getAO hp i := fun i hi => by
      rw [setAO_eq, getAO_eq _ i, List.getElem?_set_ne (fun e => hi e.symm), ← getAO_eq]
    refine ⟨c2, w2.trans w1, n2.trans n1, v2.trans v1, b2.trans b1, fun i hi => ?_, ⟨fun i b h => kk1.1 i b (kk2.1 i b h), fun b hO hn => kk2.2 b (kk1.2 b hO hn) (fun i hi e => hn i (by rw [← n1]; exact hi) (kk1.1 i b e))⟩, g2, ?_, ?_, fun i hi => ?_, fun i hi q t l hh hin => ?_⟩
    · simp at hi
      exact (k2 i hi.2).trans (k1 i hi.1)
    · exact ⟨by rw [n2, n1]; exact Nat.le_refl _, fun i b hi hl => s2.loc i b (by rw [n1]; exact hi) (s1.loc i b hi hl), fun i hi hne => by
          obtain ⟨q1, q2⟩ := s1.val i hi hne
          obtain ⟨q3, q4⟩ := s2.val i (by rw [n1]; exact hi) (by rw [q1]; exact hne)
          exact ⟨q3.trans q1, q4.trans q2⟩, fun b hO hb => s2.O b (s1.O b hO hb) (by rw [w1]; exact hb), by rw [w2, w1]; exact Nat.le_refl _, fun b _ _ => by rw [w2, w1], Nat.le_trans s2.b0 s1.b0⟩
    · rw [show frz (j :: r) hp = frz r (setAO hp j (frz1 (getAO hp j))) from rfl, l2, setAO_eq]; simp
    · simp at hi
      rw [show frz (j :: r) hp = frz r (setAO hp j (frz1 (getAO hp j))) from rfl, o2 i hi.2, hget i hi.1]
    · by_cases hij : i = j
      · subst hij
        exact sat_step (.rl q t l) s2 (f1 q t l hh hin)
      · have hir : i ∈ r := by rcases List.mem_cons.1 hi with e | e; exact absurd e hij; exact e
        have := f2 i hir q t l (by rw [hget i hij]; exact hh) (by rw [n1]; exact hin)
        rw [v1] at this
        exact this

theorem Step.trans {c c1 c2 : Cx} (s1 : Step c c1) (s2 : Step c1 c2) : Step c c2 :=
  ⟨Nat.le_trans s1.n s2.n, fun i b hi hl => s2.loc i b (Nat.lt_of_lt_of_le hi s1.n) (s1.loc i b hi hl), fun i hi hne => by
    obtain ⟨q1, q2⟩ := s1.val i hi hne
    obtain ⟨q3, q4⟩ := s2.val i (Nat.lt_of_lt_of_le hi s1.n) (by rw [q1]; exact hne)
    exact ⟨q3.trans q1, q4.trans q2⟩, fun b hO hb => s2.O b (s1.O b hO hb) (Nat.lt_of_lt_of_le hb s1.sz), Nat.le_trans s1.sz s2.sz,
    fun b hO hb => (s2.w b (s1.O b hO hb) (Nat.lt_of_lt_of_le hb s1.sz)).trans (s1.w b hO hb), Nat.le_trans s2.b0 s1.b0⟩

/-- Own rows among cells, behind that. -/
theorem unow_ok {c c' : Cx} {hp : List AO} (ob : Obs c hp) (st : Step c c') : ∀ (l : AV) (ows : List Nat) {vs : List Value}, (∀ i ∈ owsOf l, i ∈ ows) →
    (∀ i ∈ ows, ∀ q t l, ((∃ e, getAO hp i = .row q t e l) ∨ getAO hp i = .fz q t l) → i < c.n → sat (.rl q t l) c' [c.val i]) → sat l c vs → sat (unow hp l) c' vs
  | .cons h m, ows, vs, hin, hf, ⟨x, r, e, h1, h2⟩ => by
    have hm : ∀ i ∈ owsOf m, i ∈ ows := fun i hi => hin i (by cases h <;> first | exact hi | exact List.mem_cons_of_mem _ hi)
    refine ⟨x, r, e, ?_, unow_ok ob st m ows hm hf h2⟩
    cases h with
    | ow i k n =>
      have hi : i ∈ ows := hin i (List.mem_cons_self ..)
      obtain ⟨hic, hn, hx, _⟩ := h1
      have hx' : x = c.val i := by simpa using hx
      simp only [unow1]
      split
      · rename_i q t e l hg
        rw [hx']
        exact hf i hi q t l (.inl ⟨e, hg⟩) hic
      · rename_i q t l hg
        rw [hx']
        exact hf i hi q t l (.inr hg) hic
      · exact sat_step _ st ⟨hic, hn, hx, by assumption⟩
    | _ => exact sat_step _ st h1
  | .nil, _, _, _, _, h => h
  | .u, _, _, _, _, h => h
  | .v _, _, _, _, _, h => h
  | .agg l, _, _, _, _, h => sat_step _ st h
  | .tup l, _, _, _, _, h => sat_step _ st h
  | .fn _ l, _, _, _, _, h => sat_step _ st h
  | .gd _ x, _, _, _, _, h => sat_step _ st h
  | .ptr _ _, _, _, _, _, h => sat_step _ st h
  | .sc _ _ _ _ _, _, _, _, _, h => sat_step _ st h
  | .rl _ _ _, _, _, _, _, h => sat_step _ st h
  | .rc _ _ _, _, _, _, _, h => sat_step _ st h
  | .em, _, _, _, _, h => h
  | .rp _ _ _, _, _, _, _, h => sat_step _ st h
  | .ow _ _ _, _, _, _, _, h => sat_step _ st h
  | .ws _ _ _ _, _, _, _, _, h => sat_step _ st h
  | .op _ _ _ _, _, _, _, _, h => sat_step _ st h

/-- An own block turned. -/
theorem Gam.setW (h : Gam W0 X N c fr hp nx a) {i b : Nat} {w' : World} {ob : AO} (hi : i < c.n) (hk : c.key i = some b) (hs : w'.heap.size = c.w.heap.size) (hw : ∀ k, k ≠ b → w'.heap[k]? = c.w.heap[k]?) (os : w'.os = c.w.os) (tp : w'.tape = c.w.tape) (ou : w'.output = c.w.output)
    (hob : Step c (c.to w') → osat ob (c.to w') i) (dr : c.w.drawn ≤ w'.drawn := by first | exact Nat.le_refl _ | exact Nat.le_succ _) : Gam W0 X N (c.to w') fr (hp.set i ob) nx a ∧ Step c (c.to w') := by
  have hO := h.ob.kb i b hi hk
  have st : Step c (c.to w') := ⟨Nat.le_refl _, fun _ _ _ h => h, fun _ _ _ => ⟨rfl, rfl⟩, fun _ h _ => h, by show c.w.heap.size ≤ w'.heap.size; omega, fun k hkO _ => hw k (fun e => hkO (e ▸ hO.1)), Nat.le_refl _⟩
  have hz : (c.to w').w.heap.size = c.w.heap.size := hs
  have := h.turn (hp' := hp.set i ob) st ⟨by simpa [Cx.to] using h.nc, fun j o ho => ?_, h.ob.dj, fun j k hj hkj => ⟨(h.ob.kb j k hj hkj).1, by rw [hz]; exact (h.ob.kb j k hj hkj).2⟩, fun k hk' => by rw [hz]; exact h.ol k hk', by rw [hz]; exact h.ob.bz⟩
    h.kx h.oo h.oz os tp ou (fun k hkl hX => hw k (fun e => hX (e ▸ h.kx i b hi hk (e ▸ hkl)))) dr
  · rw [List.length_set, ← h.nl] at this
    exact ⟨this, st⟩
  · by_cases hij : i = j
    · subst hij
      have hl : i < hp.length := by rw [← h.nc]; exact hi
      have : o = ob := by simpa [hl] using ho.symm
      subst this
      exact hob st
    · rw [List.getElem?_set_ne hij] at ho
      have hjl : j < c.n := by rw [h.nc]; exact (List.getElem?_eq_some_iff.1 ho).1
      exact osat_keep st hjl rfl (fun h => h) ⟨rfl, rfl⟩ (fun k hkj => hw k (fun e => hij (h.ob.dj i j b hi hjl hk (e ▸ hkj)))) (h.o j o ho)
end

end Go.Proofs.Ythlkhjfilfdpiaa.Eng
