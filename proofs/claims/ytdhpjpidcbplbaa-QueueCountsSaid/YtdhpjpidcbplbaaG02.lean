/- Parts of the proof, joined: no conditions of their own. -/
import Derived.Laws.CopyRow
import Derived.Deep.Upon
import Derived.Laws.MakeOwn
import Derived.Great.BuildSlice
import Derived.Test.YtdhpjpidcbplbaaG01
set_option linter.unusedVariables false
set_option linter.unusedSimpArgs false
/- ENGINE 2, 4: own objects that come, turn and go; what callees do. -/
namespace Go.Proofs.Ytdhpjpidcbplbaa.Eng
open Go Go.RowKit
structure Ext (c c' : Cx) : Prop where
  os : c'.w.os = c.w.os
  tp : c'.w.tape = c.w.tape
  ou : c'.w.output = c.w.output
  sz : c.w.heap.size ≤ c'.w.heap.size
  n : c.n ≤ c'.n
  loc : ∀ i b, i < c.n → c.loc i = some b → c'.loc i = some b
  val : ∀ i, i < c.n → c.val i ≠ .bool false → c'.val i = c.val i ∧ c'.len i = c.len i
  b0 : c'.b0 = c.b0
  keep : ∀ b, b < c.w.heap.size → (∀ i, i < c.n → ¬ c.key i b) → c'.w.heap[b]? = c.w.heap[b]?
  O1 : ∀ b, b < c.w.heap.size → c'.O b → c.O b
  O2 : ∀ b, c.O b → (∀ i, i < c.n → ¬ c.key i b) → c'.O b
  key : ∀ i b, i < c'.n → c'.key i b → b < c.w.heap.size → ∃ j, j < c.n ∧ c.key j b
  dr : c.w.drawn ≤ c'.w.drawn
def CallOk (P : Program) (call : FuncId → Con) : Prop :=
  ∀ f l hp r, call f l hp = some r → r.pre → ∀ (c : Cx) (args : Array Value), sat l c args.toList → Obs c hp →
    (∃ fn : Func, P.funcs[f]? = some fn ∧ fn.body.isSome = true ∧ fn.name ≠ "runtime.NumGoroutine") ∧
    Calls P f args c.w fun e w' => ∃ x c', e = .returned x ∧ c'.w = w' ∧ Ext c c' ∧ Obs c' (r.lent ++ r.new) ∧ r.lent.length = hp.length ∧ sat r.res c' [x]
def OKv (P : Program) (c : Cx) (a : Act) (o : Oper) (v : AV) : Prop := ∃ x, (execOp a.eval o).run P c.w = .ok (.value x) c.w ∧ sat v c [x]
def CallOkD (P : Program) (calld : FuncId → ConD) : Prop :=
  ∀ f l hp r, calld f l hp = some r → r.pre → ∀ (c : Cx) (args : Array Value), sat l c args.toList → Obs c hp →
    (∃ fn : Func, P.funcs[f]? = some fn ∧ fn.body.isSome = true ∧ fn.name ≠ "runtime.NumGoroutine") ∧
    Calls P f args c.w fun e w' => ∃ d x c', r.ok d ∧ e = .returned x ∧ c'.w = w' ∧ Ext c c' ∧ Obs c' ((r.out d).lent ++ (r.out d).new) ∧ (r.out d).lent.length = hp.length ∧ sat (r.out d).res c' [x]
def GoodR (P : Program) (W0 : World) (X : Bd) (N : Nat) (c : Cx) (fr : Fr) (hp : List AO) (nx : Nat) (a : Act) (o : Oper) : R → Prop
  | .no => True
  | .ok v => OKv P c a o v
  | .ob p v => p → OKv P c a o v
  | .call r => r.pre → ∃ f args, (execOp a.eval o).run P c.w = .ok (.enter f args) c.w ∧
      Calls P f args c.w fun e w' => ∃ x, e = .returned x ∧ BelowD c.w.heap.size c.w w' ∧ sat r.res (c.to w') [x]
  | .new v ob => ∃ x c', (execOp a.eval o).run P c.w = .ok (.value x) c'.w ∧ Gam W0 X N c' fr (hp ++ [ob]) (nx + 1) a ∧ sat v c' [x]
  | .set v i ob => i < hp.length → ∃ c', (execOp a.eval o).run P c.w = .ok .skip c'.w ∧ Gam W0 X N c' fr (hp.set i ob) nx a ∧ v = .u
  | .upd v i ob => i < hp.length → ∃ x c', (execOp a.eval o).run P c.w = .ok (.value x) c'.w ∧ Gam W0 X N c' fr (hp.set i ob) nx a ∧ sat v c' [x]
  | .any p F => p → ∃ hd c', (execOp a.eval o).run P c.w = .ok .skip c'.w ∧ Gam W0 X N c' fr (F hd) (F hd).length a
  | .drw n over v F => (n = 0 → ∃ c', (execOp a.eval o).run P c.w = .ok (.value (.tuple #[.bool false])) c'.w ∧ Gam W0 X N c' fr over over.length a) ∧
      (0 < n → ∃ k x c', k < n ∧ (execOp a.eval o).run P c.w = .ok (.value x) c'.w ∧ Gam W0 X N c' fr (F k) (F k).length a ∧ sat (v k) c' [x])
  | .ans p d0 ok v F => p → ∃ f args, (execOp a.eval o).run P c.w = .ok (.enter f args) c.w ∧
      Calls P f args c.w fun e w' => ∃ d x c', ok d ∧ e = .returned x ∧ c'.w = w' ∧ Gam W0 X N c' fr (F d) (F d).length a ∧ sat (v d) c' [x]
  | .act 0 p v hp' => p → ∃ c', (execOp a.eval o).run P c.w = .ok .skip c'.w ∧ Gam W0 X N c' fr hp' hp'.length a ∧ v = .u
  | .act 1 p v hp' => p → ∃ x c', (execOp a.eval o).run P c.w = .ok (.value x) c'.w ∧ Gam W0 X N c' fr hp' hp'.length a ∧ sat v c' [x]
  | .act _ p v hp' => p → ∃ f args, (execOp a.eval o).run P c.w = .ok (.enter f args) c.w ∧
      Calls P f args c.w fun e w' => ∃ x c', e = .returned x ∧ c'.w = w' ∧ Gam W0 X N c' fr hp' hp'.length a ∧ sat v c' [x]
section
variable {P : Program} {W0 : World} {X : Bd} {N : Nat} {c : Cx} {fr : Fr} {hp : List AO} {nx : Nat} {a : Act} {o : Oper} {ρ : Operand → AV}
theorem lift_good {x : Option AV} {f : AV → R} (h : ∀ v, x = some v → GoodR P W0 X N c fr hp nx a o (f v)) : GoodR P W0 X N c fr hp nx a o (lift x f) := by
  cases x with
  | none => trivial
  | some v => exact h v rfl
def updF {α : Type} (f : Nat → α) (i : Nat) (x : α) : Nat → α := fun j => if j = i then x else f j
theorem updF_at {α : Type} (f : Nat → α) (i : Nat) (x : α) : updF f i x i = x := if_pos rfl
theorem updF_ne {α : Type} (f : Nat → α) {i j : Nat} (x : α) (h : j ≠ i) : updF f i x j = f j := if_neg h
def At0 (v : Value) : Prop := v.oneCell' = true ∧ ∀ A n m, v = .slice A n m → 0 < n → ∃ b, A = some ⟨b, 0, none⟩
theorem at0_bool (b : Bool) : At0 (.bool b) := ⟨rfl, fun _ _ _ h => by cases h⟩
theorem at0_slice (g n m : Nat) : At0 (.slice (some ⟨g, 0, none⟩) n m) := ⟨rfl, fun _ _ _ h _ => by injection h with h; exact ⟨g, h.symm⟩⟩
theorem at0_nil (A : Option Addr) (m : Nat) : At0 (.slice A 0 m) := ⟨rfl, fun _ _ _ h hn => by injection h with _ h; omega⟩
def Cx.add (c : Cx) (w' : World) (ix : Nat) (k : Nat → Prop) (lo : Option Nat) (v : Value) (ln n' : Nat) (hv : At0 v) : Cx :=
  ⟨w', updF c.key ix k, updF c.loc ix lo, updF c.val ix v, updF c.len ix ln, n', fun b => c.O b ∨ k b, c.b0, fun i => by unfold updF; split; exact hv.1; exact c.one i, fun i A n m => by unfold updF; split; exact hv.2 A n m; exact c.at0 i A n m⟩
theorem add_key {c : Cx} {w' : World} {ix : Nat} {k : Nat → Prop} {lo : Option Nat} {v : Value} {ln n' : Nat} {hv : At0 v} : (c.add w' ix k lo v ln n' hv).key ix = k := updF_at _ _ _
theorem Gam.add (h : Gam W0 X N c fr hp nx a) {w' : World} {ix n' ln : Nat} {k : Nat → Prop} {lo : Option Nat} {v : Value} {hv : At0 v} {hp' : List AO} {ob : AO} (B : Nat → Prop)
    (hix : (ix = c.n ∧ n' = c.n + 1 ∧ hp' = hp ++ [ob]) ∨ (hp[ix]? = some .void ∧ n' = c.n ∧ hp' = hp.set ix ob))
    (hB : ∀ b, B b → c.O b ∧ (∀ i, i < c.n → ¬ c.key i b) ∧ (b < W0.heap.size → X.x b))
    (hw : c.w.heap.size ≤ w'.heap.size) (hb : ∀ b, b < c.w.heap.size → ¬ B b → w'.heap[b]? = c.w.heap[b]?) (os : w'.os = c.w.os) (tp : w'.tape = c.w.tape) (ou : w'.output = c.w.output)
    (hk : ∀ g, k g → g < w'.heap.size ∧ (c.w.heap.size ≤ g ∨ B g)) (hob : osat ob (c.add w' ix k lo v ln n' hv) ix) (dr : c.w.drawn ≤ w'.drawn := by first | exact Nat.le_refl _ | exact Nat.le_succ _) :
    Gam W0 X N (c.add w' ix k lo v ln n' hv) fr hp' hp'.length a ∧ Step c (c.add w' ix k lo v ln n' hv) := by
  have nc := h.nc
  have hvoid : ix < c.n → (∀ b, ¬ c.key ix b) ∧ c.loc ix = none ∧ c.val ix = .bool false := fun hlt => by
    rcases hix with ⟨e, _⟩ | ⟨e, _⟩
    · omega
    · exact h.o ix _ e
  have hn : c.n ≤ n' := by rcases hix with ⟨_, e, _⟩ | ⟨_, e, _⟩ <;> omega
  have hlen : n' = hp'.length := by rcases hix with ⟨_, e, e'⟩ | ⟨_, e, e'⟩ <;> (subst e'; simp; omega)
  have hnew : ∀ b, c.O b → (∃ i, i < c.n ∧ c.key i b) ∨ True := fun _ _ => .inr trivial
  have st : Step c (c.add w' ix k lo v ln n' hv) := by
    refine ⟨hn, fun i b hi hl => ?_, fun i hi hne => ?_, fun b hO hlt h' => ?_, hw, fun b hO hlt => hb b hlt (fun hBb => hO (hB b hBb).1), Nat.le_refl _⟩
    · exact (updF_ne _ _ (fun e => by rw [e, (hvoid (e ▸ hi)).2.1] at hl; cases hl)).trans hl
    · have : i ≠ ix := fun e => hne (by rw [e]; exact (hvoid (e ▸ hi)).2.2)
      exact ⟨updF_ne _ _ this, updF_ne _ _ this⟩
    · rcases h' with h' | h'
      · exact hO h'
      · rcases (hk b h').2 with h2 | h2
        · omega
        · exact hO (hB b h2).1
  have hnokey : ∀ g, k g → ∀ i, i < c.n → ¬ c.key i g := fun g hg i hi e => by
    rcases (hk g hg).2 with h2 | h2
    · have := (h.ob.kb i g hi e).2; omega
    · exact (hB g h2).2.1 i hi e
  have hold : ∀ i b, i < n' → i ≠ ix → updF c.key ix k i b → i < c.n ∧ c.key i b := fun i b hi hne hkk => by
    rw [updF_ne _ _ hne] at hkk
    refine ⟨?_, hkk⟩
    rcases hix with ⟨e1, e2, _⟩ | ⟨_, e2, _⟩ <;> omega
  refine ⟨h.turn st ⟨hlen, fun i o ho => ?_, fun i j b hi hj h1 h2 => ?_, fun i b hi hkk => ?_, fun b hO => ?_, Nat.le_trans h.ob.bz hw⟩ (fun i b hi hkk hlt => ?_) (fun b hy => .inl (h.oo b hy)) (fun b hO hlt => ?_) os tp ou (fun b hlt hX => ?_) dr, st⟩
  · by_cases hi : i = ix
    · subst hi
      have : o = ob := by
        rcases hix with ⟨e1, _, e3⟩ | ⟨e1, _, e3⟩
        · rw [e3, e1, nc] at ho; simpa using ho.symm
        · rw [e3] at ho
          have hl := (List.getElem?_eq_some_iff.1 e1).1
          simpa [hl] using ho.symm
      rw [this]; exact hob
    · have ho' : hp[i]? = some o := by
        rcases hix with ⟨e1, _, e3⟩ | ⟨e1, _, e3⟩
        · rw [e3] at ho
          have hl := (List.getElem?_eq_some_iff.1 ho).1
          simp at hl
          rw [List.getElem?_append_left (by omega)] at ho
          exact ho
        · rw [e3, List.getElem?_set_ne (fun e => hi e.symm)] at ho; exact ho
      have hil : i < c.n := by have := (List.getElem?_eq_some_iff.1 ho').1; omega
      exact osat_keep st hil (updF_ne _ _ hi) (fun e => (updF_ne _ _ hi).trans e) ⟨updF_ne _ _ hi, updF_ne _ _ hi⟩ (fun b hkb => hb b (h.ob.kb i b hil hkb).2 (fun hBb => (hB b hBb).2.1 i hil hkb)) (h.o i o ho')
  · by_cases hin : i = ix <;> by_cases hjn : j = ix
    · omega
    · subst hin
      obtain ⟨hj', h2'⟩ := hold j b hj hjn h2
      exact absurd h2' (hnokey b (by rw [show (c.add w' i k lo v ln n' hv).key i = k from updF_at _ _ _] at h1; exact h1) j hj')
    · subst hjn
      obtain ⟨hi', h1'⟩ := hold i b hi hin h1
      exact absurd h1' (hnokey b (by rw [show (c.add w' j k lo v ln n' hv).key j = k from updF_at _ _ _] at h2; exact h2) i hi')
    · obtain ⟨hi', h1'⟩ := hold i b hi hin h1
      obtain ⟨hj', h2'⟩ := hold j b hj hjn h2
      exact h.ob.dj i j b hi' hj' h1' h2'
  · by_cases hin : i = ix
    · subst hin
      have : k b := by rw [show (c.add w' i k lo v ln n' hv).key i = k from updF_at _ _ _] at hkk; exact hkk
      exact ⟨.inr this, (hk b this).1⟩
    · obtain ⟨hi', h1'⟩ := hold i b hi hin hkk
      have := h.ob.kb i b hi' h1'
      exact ⟨.inl this.1, Nat.lt_of_lt_of_le this.2 hw⟩
  · rcases hO with hO | hO
    · exact Nat.lt_of_lt_of_le (h.ol b hO) hw
    · exact (hk b hO).1
  · by_cases hin : i = ix
    · subst hin
      have : k b := by rw [show (c.add w' i k lo v ln n' hv).key i = k from updF_at _ _ _] at hkk; exact hkk
      rcases (hk b this).2 with h2 | h2
      · have := h.sz; omega
      · exact (hB b h2).2.2 hlt
    · obtain ⟨hi', h1'⟩ := hold i b hi hin hkk
      exact h.kx i b hi' h1' hlt
  · rcases hO with hO | hO
    · exact h.oz b hO hlt
    · rcases (hk b hO).2 with h2 | h2
      · have := h.sz; omega
      · exact h.oz b (hB b h2).1 hlt
  · exact hb b (by have := h.sz; omega) (fun hBb => hX ((hB b hBb).2.2 hlt))
theorem Gam.kill (h : Gam W0 X N c fr hp nx a) {j : Nat} (hj : j < c.n) (hcells : c.loc j = none ∨ True) :
    Gam W0 X N { c with key := updF c.key j noK } fr (hp.set j .dead) (hp.set j .dead).length a ∧ Step c { c with key := updF c.key j noK } ∧ (∀ b, c.key j b → ∀ i, i < c.n → ¬ updF c.key j noK i b) := by
  have st : Step c { c with key := updF c.key j noK } := ⟨Nat.le_refl _, fun _ _ _ h => h, fun _ _ _ => ⟨rfl, rfl⟩, fun _ h _ => h, Nat.le_refl _, fun _ _ _ => rfl, Nat.le_refl _⟩
  have hold : ∀ i b, updF c.key j noK i b → i ≠ j ∧ c.key i b := fun i b hk => by
    by_cases e : i = j
    · rw [e, updF_at] at hk; exact hk.elim
    · rw [updF_ne _ _ e] at hk; exact ⟨e, hk⟩
  refine ⟨h.turn st ⟨by simpa using h.nc, fun i o ho => ?_, fun i k b hi hk h1 h2 => h.ob.dj i k b hi hk (hold _ _ h1).2 (hold _ _ h2).2, fun i b hi hk => h.ob.kb i b hi (hold _ _ hk).2, h.ol, h.ob.bz⟩
    (fun i b hi hk => h.kx i b hi (hold _ _ hk).2) h.oo h.oz rfl rfl rfl (fun _ _ _ => rfl) (Nat.le_refl _), st, fun b hb i hi e => (hold i b e).1 (h.ob.dj i j b hi hj (hold i b e).2 hb)⟩
  by_cases hi : i = j
  · subst hi
    have hl : i < hp.length := by rw [← h.nc]; exact hj
    have : o = .dead := by simpa [hl] using ho.symm
    subst this
    intro b hb
    rw [show ({ c with key := updF c.key i noK } : Cx).key i = noK from updF_at _ _ _] at hb
    exact hb
  · rw [List.getElem?_set_ne (fun e => hi e.symm)] at ho
    have hil : i < c.n := by rw [h.nc]; exact (List.getElem?_eq_some_iff.1 ho).1
    exact osat_keep st hil (updF_ne _ _ hi) (fun h => h) ⟨rfl, rfl⟩ (fun _ _ => rfl) (h.o i o ho)
theorem Gam.less (h : Gam W0 X N c fr hp nx a) {j : Nat} (hj : j < c.n) {K : Nat → Prop} (hK : ∀ b, K b → c.key j b) {ob : AO} (hob : Step c { c with key := updF c.key j K } → osat ob { c with key := updF c.key j K } j) :
    Gam W0 X N { c with key := updF c.key j K } fr (hp.set j ob) (hp.set j ob).length a ∧ Step c { c with key := updF c.key j K } ∧ (∀ b, c.key j b → ¬ K b → ∀ i, i < c.n → ¬ updF c.key j K i b) := by
  have st : Step c { c with key := updF c.key j K } := ⟨Nat.le_refl _, fun _ _ _ h => h, fun _ _ _ => ⟨rfl, rfl⟩, fun _ h _ => h, Nat.le_refl _, fun _ _ _ => rfl, Nat.le_refl _⟩
  have hold : ∀ i b, updF c.key j K i b → c.key i b := fun i b hk => by
    by_cases e : i = j
    · rw [e, updF_at] at hk; rw [e]; exact hK b hk
    · rw [updF_ne _ _ e] at hk; exact hk
  refine ⟨h.turn st ⟨by simpa using h.nc, fun i o ho => ?_, fun i k b hi hk h1 h2 => h.ob.dj i k b hi hk (hold _ _ h1) (hold _ _ h2), fun i b hi hk => h.ob.kb i b hi (hold _ _ hk), h.ol, h.ob.bz⟩
    (fun i b hi hk => h.kx i b hi (hold _ _ hk)) h.oo h.oz rfl rfl rfl (fun _ _ _ => rfl) (Nat.le_refl _), st, fun b hb hn i hi e => ?_⟩
  · by_cases hi : i = j
    · subst hi
      have hl : i < hp.length := by rw [← h.nc]; exact hj
      have : o = ob := by simpa [hl] using ho.symm
      subst this
      exact hob st
    · rw [List.getElem?_set_ne (fun e => hi e.symm)] at ho
      have hil : i < c.n := by rw [h.nc]; exact (List.getElem?_eq_some_iff.1 ho).1
      exact osat_keep st hil (updF_ne _ _ hi) (fun h => h) ⟨rfl, rfl⟩ (fun _ _ => rfl) (h.o i o ho)
  · have := h.ob.dj i j b hi hj (hold i b e) hb
    subst this
    rw [updF_at] at e
    exact hn e
theorem row_rl {c c' : Cx} {j : Nat} {q : Bool} {t : Ty} {e : TypeId} {l : List (El t)} (h : rowAt c j q t e l) (kb : ∀ b, c.key j b → b < c.w.heap.size) (hw : c'.w = c.w) (hb : c'.b0 ≤ c.b0) (hO : ∀ b, ¬ c.O b → ¬ c'.O b) (hk : ∀ b, c.key j b → ¬ c'.O b) : sat (.rl q t l) c' [c.val j] := by
  obtain ⟨h0, h1, hq, xs, h2, h3, h4⟩ := h
  have kp : Keeps c.w c.O (qb q c.b0) c'.w c'.O (qb q c'.b0) := ⟨fun k h _ _ => hO k h, by rw [hw]; exact Nat.le_refl _, fun _ _ _ _ => by rw [hw], fun k _ _ h' => Nat.le_trans (qb_mono id hb) h'⟩
  rcases h3 with ⟨e1, A, e2, e3⟩ | ⟨g, cap, cur, e1, e2, e3, e4, e5, e6, e7⟩
  · subst e1
    exact ⟨A, 0, by rw [e2]; rfl, Nat.zero_le _, fun i y hy => by simp at hy⟩
  · refine ⟨some ⟨g, 0, none⟩, cap, by rw [e1], e4, fun i y hy => ⟨⟨g, 0, none⟩, rfl, rfl, hk g ((e2 g).2 rfl), by rw [hw]; exact kb g ((e2 g).2 rfl), ?_, (xs.drop (i * tsz t)).take (tsz t), ?_, ?_, memE_keeps kp t y _ (h4 i y hy)⟩⟩
    · cases q with
      | false => exact Nat.zero_le _
      | true => exact Nat.le_trans (qb_le true c'.b0) (Nat.le_trans hb (hq rfl g ((e2 g).2 rfl)))
    · have hi : i < l.length := (List.getElem?_eq_some_iff.1 hy).1
      have : (i + 1) * tsz t ≤ l.length * tsz t := Nat.mul_le_mul_right _ hi
      rw [Nat.add_mul] at this
      simp; omega
    · intro p v hp
      rw [hw]
      have hp' : xs[i * tsz t + p]? = some v := by
        rw [List.getElem?_take] at hp
        split at hp
        · simpa [List.getElem?_drop] using hp
        · cases hp
      rw [← e7, List.getElem?_take] at hp'
      split at hp'
      · rw [Nat.zero_add, e3.cell]
        simpa using hp'
      · cases hp'
theorem Gam.freezeX (h : Gam W0 X N c fr hp nx a) {j : Nat} {q : Bool} {t : Ty} {l : List (El t)} {o0 : AO} (hj : hp[j]? = some o0) (hlen : l.length = c.len j) (hoff : ∀ ad n m, c.val j = .slice (some ad) n m → 0 < n → ad.off = 0)
    (hsat : ∀ c' : Cx, c'.w = c.w → c'.b0 = c.b0 → (∀ b, ¬ c.O b → ¬ c'.O b) → (∀ b, c.key j b → ¬ c'.O b) → sat (.rl q t l) c' [c.val j]) :
    ∃ c', c'.w = c.w ∧ c'.n = c.n ∧ c'.val = c.val ∧ c'.b0 = c.b0 ∧ (∀ i, i ≠ j → c'.key i = c.key i) ∧ ((∀ i b, c'.key i b → c.key i b) ∧ ∀ b, c.O b → (∀ i, i < c.n → ¬ c.key i b) → c'.O b) ∧ Gam W0 X N c' fr (hp.set j (.fz q t l)) (hp.set j (.fz q t l)).length a ∧ Step c c' ∧ sat (.rl q t l) c' [c.val j] := by
  have hjl : j < hp.length := (List.getElem?_eq_some_iff.1 hj).1
  have hjn : j < c.n := by rw [h.nc]; exact hjl
  let c' : Cx := { c with key := updF c.key j noK, O := fun b => c.O b ∧ ¬ c.key j b }
  have st : Step c c' := ⟨Nat.le_refl _, fun _ _ _ h => h, fun _ _ _ => ⟨rfl, rfl⟩, fun _ h _ h' => h h'.1, Nat.le_refl _, fun _ _ _ => rfl, Nat.le_refl _⟩
  have hs : sat (.rl q t l) c' [c.val j] := hsat c' rfl rfl (fun b hb h' => hb h'.1) (fun b hb h' => h'.2 hb)
  have hold : ∀ i b, updF c.key j noK i b → i ≠ j ∧ c.key i b := fun i b hk => by
    by_cases e : i = j
    · rw [e, updF_at] at hk; exact hk.elim
    · rw [updF_ne _ _ e] at hk; exact ⟨e, hk⟩
  refine ⟨c', rfl, rfl, rfl, rfl, fun i hi => updF_ne _ _ hi, ⟨fun i b h => (hold i b h).2, fun b hO hn => ⟨hO, hn j hjn⟩⟩, h.turn st ⟨by simpa using h.nc, fun i o ho => ?_, fun i k b hi hk h1 h2 => h.ob.dj i k b hi hk (hold _ _ h1).2 (hold _ _ h2).2,
    fun i b hi hk => ⟨⟨(h.ob.kb i b hi (hold _ _ hk).2).1, fun e => (hold _ _ hk).1 (h.ob.dj i j b hi hjn (hold _ _ hk).2 e)⟩, (h.ob.kb i b hi (hold _ _ hk).2).2⟩, fun b hO => h.ol b hO.1, h.ob.bz⟩
    (fun i b hi hk => h.kx i b hi (hold _ _ hk).2) (fun b hy => ⟨h.oo b hy, fun e => (h.xy b hy).2 (h.kx j b hjn e (h.xy b hy).1)⟩) (fun b hO => h.oz b hO.1) rfl rfl rfl (fun _ _ _ => rfl) (Nat.le_refl _), st, hs⟩
  by_cases hi : i = j
  · subst hi
    have : o = .fz q t l := by simpa [hjl] using ho.symm
    subst this
    refine ⟨fun b hb => by rw [show c'.key i = noK from updF_at _ _ _] at hb; exact hb, hlen, hs, hoff⟩
  · rw [List.getElem?_set_ne (fun e => hi e.symm)] at ho
    have hil : i < c.n := by rw [h.nc]; exact (List.getElem?_eq_some_iff.1 ho).1
    exact osat_keep st hil (updF_ne _ _ hi) (fun h => h) ⟨rfl, rfl⟩ (fun _ _ => rfl) (h.o i o ho)
theorem Gam.freeze1 (h : Gam W0 X N c fr hp nx a) {j : Nat} {q : Bool} {t : Ty} {e : TypeId} {l : List (El t)} (hj : hp[j]? = some (.row q t e l)) :
    ∃ c', c'.w = c.w ∧ c'.n = c.n ∧ c'.val = c.val ∧ c'.b0 = c.b0 ∧ (∀ i, i ≠ j → c'.key i = c.key i) ∧ ((∀ i b, c'.key i b → c.key i b) ∧ ∀ b, c.O b → (∀ i, i < c.n → ¬ c.key i b) → c'.O b) ∧ Gam W0 X N c' fr (hp.set j (.fz q t l)) (hp.set j (.fz q t l)).length a ∧ Step c c' ∧ sat (.rl q t l) c' [c.val j] := by
  have hrow : rowAt c j q t e l := h.o j _ hj
  have hjn : j < c.n := by rw [h.nc]; exact (List.getElem?_eq_some_iff.1 hj).1
  refine h.freezeX hj hrow.2.1 (fun ad n m hv hn => ?_) fun c' hw hb hO hk => row_rl hrow (fun b hb => (h.ob.kb j b hjn hb).2) hw (Nat.le_of_eq hb) hO hk
  obtain ⟨_, _, _, xs, _, h3, _⟩ := hrow
  rcases h3 with ⟨e1, A, e2, e3⟩ | ⟨g, cap, cur, e1, _⟩
  · rw [hv] at e2
    injection e2 with _ e2; omega
  · rw [hv] at e1
    injection e1 with e1; injection e1 with e1; rw [e1]
theorem Gam.freezeM (h : Gam W0 X N c fr hp nx a) {j : Nat} {q : Bool} {H : Nat → Nat → Value} {t : Ty} {m : List (Option TypeId)} {e : TypeId} {l : List (El t)} (hj : hp[j]? = some (.mt q H t m e l)) :
    ∃ c', c'.w = c.w ∧ c'.n = c.n ∧ c'.val = c.val ∧ c'.b0 = c.b0 ∧ (∀ i, i ≠ j → c'.key i = c.key i) ∧ ((∀ i b, c'.key i b → c.key i b) ∧ ∀ b, c.O b → (∀ i, i < c.n → ¬ c.key i b) → c'.O b) ∧ Gam W0 X N c' fr (hp.set j (.fz q t l)) (hp.set j (.fz q t l)).length a ∧ Step c c' ∧ sat (.rl q t l) c' [c.val j] := by
  have hrow : mtAt c j q H t m e l := h.o j _ hj
  have hjn : j < c.n := by rw [h.nc]; exact (List.getElem?_eq_some_iff.1 hj).1
  refine h.freezeX hj hrow.2.1 (fun ad n m hv hn => ?_) fun c' hw hb hO hk => mt_rl hrow id (fun b hb => (h.ob.kb j b hjn hb).2) hw (qb_mono id (Nat.le_of_eq hb)) (fun _ => Nat.le_of_eq hb) hO hk
  obtain ⟨_, _, _, h3⟩ := hrow
  rcases h3 with ⟨e1, A, e2, e3⟩ | ⟨g, cap, cur, e1, _⟩
  · rw [hv] at e2
    injection e2 with _ e2; omega
  · rw [hv] at e1
    injection e1 with e1; injection e1 with e1; rw [e1]
theorem set_self {l : List AO} {i : Nat} : l.set i (getAO l i) = l := by
  refine List.ext_getElem? fun k => ?_
  by_cases h : i = k
  · subst h
    by_cases hl : i < l.length
    · simp [hl, getAO_eq]
    · simp [hl]
  · rw [List.getElem?_set_ne h]
theorem Gam.freeze : ∀ (ows : List Nat) {c : Cx} {hp : List AO} {nx : Nat}, Gam W0 X N c fr hp nx a →
    ∃ c', c'.w = c.w ∧ c'.n = c.n ∧ c'.val = c.val ∧ c'.b0 = c.b0 ∧ (∀ i, ¬ i ∈ ows → c'.key i = c.key i) ∧ ((∀ i b, c'.key i b → c.key i b) ∧ ∀ b, c.O b → (∀ i, i < c.n → ¬ c.key i b) → c'.O b) ∧ Gam W0 X N c' fr (frz ows hp) (frz ows hp).length a ∧ Step c c' ∧ (frz ows hp).length = hp.length ∧
      (∀ i, ¬ i ∈ ows → getAO (frz ows hp) i = getAO hp i) ∧
      ∀ i ∈ ows, ∀ q t l, ((∃ e, getAO hp i = .row q t e l) ∨ getAO hp i = .fz q t l) → i < c.n → sat (.rl q t l) c' [c.val i]
  | [], c, hp, nx, h => ⟨c, rfl, rfl, rfl, rfl, fun _ _ => rfl, ⟨fun _ _ h => h, fun _ h _ => h⟩, h.nl ▸ h, Step.refl c, rfl, fun _ _ => rfl, fun i hi => by cases hi⟩
  | j :: r, c, hp, nx, h => by
    have one : ∃ c1, c1.w = c.w ∧ c1.n = c.n ∧ c1.val = c.val ∧ c1.b0 = c.b0 ∧ (∀ i, i ≠ j → c1.key i = c.key i) ∧ ((∀ i b, c1.key i b → c.key i b) ∧ ∀ b, c.O b → (∀ i, i < c.n → ¬ c.key i b) → c1.O b) ∧ Gam W0 X N c1 fr (setAO hp j (frz1 (getAO hp j))) (setAO hp j (frz1 (getAO hp j))).length a ∧ Step c c1 ∧
        ∀ q t l, ((∃ e, getAO hp j = .row q t e l) ∨ getAO hp j = .fz q t l) → j < c.n → sat (.rl q t l) c1 [c.val j] := by
      rw [setAO_eq]
      cases hg : getAO hp j with
      | row q t e l =>
        have hj : hp[j]? = some (.row q t e l) := by
          rw [getAO_eq] at hg
          cases hq : hp[j]? with
          | none => rw [hq] at hg; cases hg
          | some x => rw [hq] at hg; simpa using hg
        obtain ⟨c1, h1, h2, h3, h4, h5, h5b, h6, h7, h8⟩ := h.freeze1 hj
        refine ⟨c1, h1, h2, h3, h4, h5, h5b, h6, h7, fun q' t' l' hh _ => ?_⟩
        rcases hh with ⟨e', hh⟩ | hh
        · cases hh; exact h8
        · cases hh
      | mt q H t m e l =>
        have hj : hp[j]? = some (.mt q H t m e l) := by
          rw [getAO_eq] at hg
          cases hq : hp[j]? with
          | none => rw [hq] at hg; cases hg
          | some x => rw [hq] at hg; simpa using hg
        obtain ⟨c1, h1, h2, h3, h4, h5, h5b, h6, h7, h8⟩ := h.freezeM hj
        refine ⟨c1, h1, h2, h3, h4, h5, h5b, h6, h7, fun q' t' l' hh _ => ?_⟩
        rcases hh with ⟨e', hh⟩ | hh <;> cases hh
      | fz q t l =>
        have hset : hp.set j (frz1 (.fz q t l)) = hp := by
          have := set_self (l := hp) (i := j); rw [hg] at this; exact this
        rw [hset]
        refine ⟨c, rfl, rfl, rfl, rfl, fun _ _ => rfl, ⟨fun _ _ h => h, fun _ h _ => h⟩, h.nl ▸ h, Step.refl c, fun q' t' l' hh hj => ?_⟩
        rcases hh with ⟨e', hh⟩ | hh
        · cases hh
        · cases hh
          have hj' : hp[j]? = some (.fz q t l) := by
            rw [getAO_eq] at hg
            cases hq : hp[j]? with
            | none => rw [hq] at hg; cases hg
            | some x => rw [hq] at hg; simpa using hg
          exact (h.o j _ hj').2.2.1
      | cells l =>
        have hset : hp.set j (frz1 (.cells l)) = hp := by
          have := set_self (l := hp) (i := j); rw [hg] at this; exact this
        rw [hset]
        exact ⟨c, rfl, rfl, rfl, rfl, fun _ _ => rfl, ⟨fun _ _ h => h, fun _ h _ => h⟩, h.nl ▸ h, Step.refl c, fun q' t' l' hh hj => by rcases hh with ⟨e', hh⟩ | hh <;> cases hh⟩
      | mpo ka va kt vt out it l =>
        have hset : hp.set j (frz1 (.mpo ka va kt vt out it l)) = hp := by
          have := set_self (l := hp) (i := j); rw [hg] at this; exact this
        rw [hset]
        exact ⟨c, rfl, rfl, rfl, rfl, fun _ _ => rfl, ⟨fun _ _ h => h, fun _ h _ => h⟩, h.nl ▸ h, Step.refl c, fun q' t' l' hh hj => by rcases hh with ⟨e', hh⟩ | hh <;> cases hh⟩
      | itp jj =>
        have hset : hp.set j (frz1 (.itp jj)) = hp := by
          have := set_self (l := hp) (i := j); rw [hg] at this; exact this
        rw [hset]
        exact ⟨c, rfl, rfl, rfl, rfl, fun _ _ => rfl, ⟨fun _ _ h => h, fun _ h _ => h⟩, h.nl ▸ h, Step.refl c, fun q' t' l' hh hj => by rcases hh with ⟨e', hh⟩ | hh <;> cases hh⟩
      | dead =>
        have hset : hp.set j (frz1 .dead) = hp := by
          have := set_self (l := hp) (i := j); rw [hg] at this; exact this
        rw [hset]
        exact ⟨c, rfl, rfl, rfl, rfl, fun _ _ => rfl, ⟨fun _ _ h => h, fun _ h _ => h⟩, h.nl ▸ h, Step.refl c, fun q' t' l' hh hj => by rcases hh with ⟨e', hh⟩ | hh <;> cases hh⟩
      | void =>
        have hset : hp.set j (frz1 .void) = hp := by
          have := set_self (l := hp) (i := j); rw [hg] at this; exact this
        rw [hset]
        exact ⟨c, rfl, rfl, rfl, rfl, fun _ _ => rfl, ⟨fun _ _ h => h, fun _ h _ => h⟩, h.nl ▸ h, Step.refl c, fun q' t' l' hh hj => by rcases hh with ⟨e', hh⟩ | hh <;> cases hh⟩
    obtain ⟨c1, w1, n1, v1, b1, k1, kk1, g1, s1, f1⟩ := one
    obtain ⟨c2, w2, n2, v2, b2, k2, kk2, g2, s2, l2, o2, f2⟩ := Gam.freeze r g1
    have hget : ∀ i, i ≠ j → getAO (setAO hp j (frz1 (getAO hp j))) i = getAO hp i := fun i hi => by
      rw [setAO_eq, getAO_eq _ i, List.getElem?_set_ne (fun e => hi e.symm), ← getAO_eq]
    refine ⟨c2, w2.trans w1, n2.trans n1, v2.trans v1, b2.trans b1, fun i hi => ?_, ⟨fun i b h => kk1.1 i b (kk2.1 i b h), fun b hO hn => kk2.2 b (kk1.2 b hO hn) (fun i hi e => hn i (by rw [← n1]; exact hi) (kk1.1 i b e))⟩, g2, ?_, ?_, fun i hi => ?_, fun i hi q t l hh hin => ?_⟩
    · simp at hi
      exact (k2 i hi.2).trans (k1 i hi.1)
    · exact ⟨by rw [n2, n1]; exact Nat.le_refl _, fun i b hi hl => s2.loc i b (by rw [n1]; exact hi) (s1.loc i b hi hl), fun i hi hne => by
          obtain ⟨q1, q2⟩ := s1.val i hi hne
          obtain ⟨q3, q4⟩ := s2.val i (by rw [n1]; exact hi) (by rw [q1]; exact hne)
          exact ⟨q3.trans q1, q4.trans q2⟩, fun b hO hb => s2.O b (s1.O b hO hb) (by rw [w1]; exact hb), by rw [w2, w1]; exact Nat.le_refl _, fun b _ _ => by rw [w2, w1], Nat.le_trans s2.b0 s1.b0⟩
    · rw [show frz (j :: r) hp = frz r (setAO hp j (frz1 (getAO hp j))) from rfl, l2, setAO_eq]; simp
    · simp at hi
      rw [show frz (j :: r) hp = frz r (setAO hp j (frz1 (getAO hp j))) from rfl, o2 i hi.2, hget i hi.1]
    · by_cases hij : i = j
      · subst hij
        exact sat_step (.rl q t l) s2 (f1 q t l hh hin)
      · have hir : i ∈ r := by rcases List.mem_cons.1 hi with e | e; exact absurd e hij; exact e
        have := f2 i hir q t l (by rw [hget i hij]; exact hh) (by rw [n1]; exact hin)
        rw [v1] at this
        exact this
theorem Step.trans {c c1 c2 : Cx} (s1 : Step c c1) (s2 : Step c1 c2) : Step c c2 :=
  ⟨Nat.le_trans s1.n s2.n, fun i b hi hl => s2.loc i b (Nat.lt_of_lt_of_le hi s1.n) (s1.loc i b hi hl), fun i hi hne => by
    obtain ⟨q1, q2⟩ := s1.val i hi hne
    obtain ⟨q3, q4⟩ := s2.val i (Nat.lt_of_lt_of_le hi s1.n) (by rw [q1]; exact hne)
    exact ⟨q3.trans q1, q4.trans q2⟩, fun b hO hb => s2.O b (s1.O b hO hb) (Nat.lt_of_lt_of_le hb s1.sz), Nat.le_trans s1.sz s2.sz,
    fun b hO hb => (s2.w b (s1.O b hO hb) (Nat.lt_of_lt_of_le hb s1.sz)).trans (s1.w b hO hb), Nat.le_trans s2.b0 s1.b0⟩
theorem unow_ok {c c' : Cx} {hp : List AO} (ob : Obs c hp) (st : Step c c') : ∀ (l : AV) (ows : List Nat) {vs : List Value}, (∀ i ∈ owsOf l, i ∈ ows) →
    (∀ i ∈ ows, ∀ q t l, ((∃ e, getAO hp i = .row q t e l) ∨ getAO hp i = .fz q t l) → i < c.n → sat (.rl q t l) c' [c.val i]) → sat l c vs → sat (unow hp l) c' vs
  | .cons h m, ows, vs, hin, hf, ⟨x, r, e, h1, h2⟩ => by
    have hm : ∀ i ∈ owsOf m, i ∈ ows := fun i hi => hin i (by cases h <;> first | exact hi | exact List.mem_cons_of_mem _ hi)
    refine ⟨x, r, e, ?_, unow_ok ob st m ows hm hf h2⟩
    cases h with
    | ow i k n =>
      have hi : i ∈ ows := hin i (List.mem_cons_self ..)
      obtain ⟨hic, hn, hx, _⟩ := h1
      have hx' : x = c.val i := by simpa using hx
      simp only [unow1]
      split
      · rename_i q t e l hg
        rw [hx']
        exact hf i hi q t l (.inl ⟨e, hg⟩) hic
      · rename_i q t l hg
        rw [hx']
        exact hf i hi q t l (.inr hg) hic
      · exact sat_step _ st ⟨hic, hn, hx, by assumption⟩
    | _ => exact sat_step _ st h1
  | .nil, _, _, _, _, h => h
  | .u, _, _, _, _, h => h
  | .v _, _, _, _, _, h => h
  | .agg l, _, _, _, _, h => sat_step _ st h
  | .tup l, _, _, _, _, h => sat_step _ st h
  | .fn _ l, _, _, _, _, h => sat_step _ st h
  | .gd _ x, _, _, _, _, h => sat_step _ st h
  | .ptr _ _, _, _, _, _, h => sat_step _ st h
  | .sc _ _ _ _ _, _, _, _, _, h => sat_step _ st h
  | .rl _ _ _, _, _, _, _, h => sat_step _ st h
  | .rc _ _ _, _, _, _, _, h => sat_step _ st h
  | .em, _, _, _, _, h => h
  | .rp _ _ _, _, _, _, _, h => sat_step _ st h
  | .ow _ _ _, _, _, _, _, h => sat_step _ st h
  | .ws _ _ _ _, _, _, _, _, h => sat_step _ st h
  | .op _ _ _ _, _, _, _, _, h => sat_step _ st h
  | .iw _ _ _ _ _ _, _, _, _, _, h => sat_step _ st h
  | .ip _ _ _ _ _ _ _, _, _, _, _, h => sat_step _ st h
  | .mp _, _, _, _, _, h => sat_step _ st h
  | .mw _ _ _ _ _, _, _, _, _, h => sat_step _ st h
  | .mq _ _ _ _ _ _ _, _, _, _, _, h => sat_step _ st h
theorem Gam.setW (h : Gam W0 X N c fr hp nx a) {i b : Nat} {w' : World} {ob : AO} (hi : i < c.n) (hk : c.key i b) (hs : w'.heap.size = c.w.heap.size) (hw : ∀ k, k ≠ b → w'.heap[k]? = c.w.heap[k]?) (os : w'.os = c.w.os) (tp : w'.tape = c.w.tape) (ou : w'.output = c.w.output)
    (hob : Step c (c.to w') → osat ob (c.to w') i) (dr : c.w.drawn ≤ w'.drawn := by first | exact Nat.le_refl _ | exact Nat.le_succ _) : Gam W0 X N (c.to w') fr (hp.set i ob) nx a ∧ Step c (c.to w') := by
  have hO := h.ob.kb i b hi hk
  have st : Step c (c.to w') := ⟨Nat.le_refl _, fun _ _ _ h => h, fun _ _ _ => ⟨rfl, rfl⟩, fun _ h _ => h, by show c.w.heap.size ≤ w'.heap.size; omega, fun k hkO _ => hw k (fun e => hkO (e ▸ hO.1)), Nat.le_refl _⟩
  have hz : (c.to w').w.heap.size = c.w.heap.size := hs
  have := h.turn (hp' := hp.set i ob) st ⟨by simpa [Cx.to] using h.nc, fun j o ho => ?_, h.ob.dj, fun j k hj hkj => ⟨(h.ob.kb j k hj hkj).1, by rw [hz]; exact (h.ob.kb j k hj hkj).2⟩, fun k hk' => by rw [hz]; exact h.ol k hk', by rw [hz]; exact h.ob.bz⟩
    h.kx h.oo h.oz os tp ou (fun k hkl hX => hw k (fun e => hX (e ▸ h.kx i b hi hk (e ▸ hkl)))) dr
  · rw [List.length_set, ← h.nl] at this
    exact ⟨this, st⟩
  · by_cases hij : i = j
    · subst hij
      have hl : i < hp.length := by rw [← h.nc]; exact hi
      have : o = ob := by simpa [hl] using ho.symm
      subst this
      exact hob st
    · rw [List.getElem?_set_ne hij] at ho
      have hjl : j < c.n := by rw [h.nc]; exact (List.getElem?_eq_some_iff.1 ho).1
      exact osat_keep st hjl rfl (fun h => h) ⟨rfl, rfl⟩ (fun k hkj => hw k (fun e => hij (h.ob.dj i j b hi hjl hk (e ▸ hkj)))) (h.o j o ho)
def Cx.join2 (c : Cx) (w' : World) (j j2 : Nat) (K : Nat → Prop) : Cx := { c with w := w', key := updF (updF c.key j2 noK) j K }
theorem Gam.join2 (h : Gam W0 X N c fr hp nx a) {j j2 b : Nat} {K : Nat → Prop} {w' : World} {ob : AO} (hj : j < c.n) (hj2 : j2 < c.n) (hne : j2 ≠ j) (hK : ∀ b, K b → c.key j b ∨ c.key j2 b) (hb : c.key j b) (hs : w'.heap.size = c.w.heap.size) (hw : ∀ k, k ≠ b → w'.heap[k]? = c.w.heap[k]?) (os : w'.os = c.w.os) (tp : w'.tape = c.w.tape) (ou : w'.output = c.w.output)
    (hob : Step c (c.join2 w' j j2 K) → osat ob (c.join2 w' j j2 K) j) (dr : c.w.drawn ≤ w'.drawn := by first | exact Nat.le_refl _ | exact Nat.le_succ _) :
    Gam W0 X N (c.join2 w' j j2 K) fr ((hp.set j2 .dead).set j ob) ((hp.set j2 .dead).set j ob).length a ∧ Step c (c.join2 w' j j2 K) := by
  have hO := h.ob.kb j b hj hb
  have st : Step c (c.join2 w' j j2 K) := ⟨Nat.le_refl _, fun _ _ _ h => h, fun _ _ _ => ⟨rfl, rfl⟩, fun _ h _ => h, by show c.w.heap.size ≤ w'.heap.size; omega, fun k hkO _ => hw k (fun e => hkO (e ▸ hO.1)), Nat.le_refl _⟩
  have kj : (c.join2 w' j j2 K).key j = K := updF_at _ _ _
  have kj2 : (c.join2 w' j j2 K).key j2 = noK := (updF_ne _ _ hne).trans (updF_at _ _ _)
  have ko : ∀ i, i ≠ j → i ≠ j2 → (c.join2 w' j j2 K).key i = c.key i := fun i h1 h2 => (updF_ne _ _ h1).trans (updF_ne _ _ h2)
  have old : ∀ i b, (c.join2 w' j j2 K).key i b → (i = j ∧ (c.key j b ∨ c.key j2 b)) ∨ (i ≠ j ∧ i ≠ j2 ∧ c.key i b) := fun i b hk => by
    by_cases e : i = j
    · subst e; rw [kj] at hk; exact .inl ⟨rfl, hK b hk⟩
    · by_cases e2 : i = j2
      · subst e2; rw [kj2] at hk; exact hk.elim
      · rw [ko i e e2] at hk; exact .inr ⟨e, e2, hk⟩
  refine ⟨h.turn st ⟨by simpa [Cx.join2] using h.nc, fun i o ho => ?_, fun i k b hi hk h1 h2 => ?_, fun i b hi hk => ?_, fun b hb => by show b < w'.heap.size; rw [hs]; exact h.ol b hb, by show c.b0 ≤ w'.heap.size; rw [hs]; exact h.ob.bz⟩
    (fun i b hi hk hlt => ?_) h.oo h.oz os tp ou (fun k hkl hX => hw k (fun e => hX (e ▸ h.kx j b hj hb (e ▸ hkl)))) dr, st⟩
  · by_cases e : i = j
    · subst e
      have hl : i < ((hp.set j2 .dead)).length := by rw [List.length_set, ← h.nc]; exact hj
      rw [List.getElem?_set_self hl] at ho
      injection ho with ho; subst ho
      exact hob st
    · rw [List.getElem?_set_ne (fun e' => e e'.symm)] at ho
      by_cases e2 : i = j2
      · subst e2
        have hl : i < hp.length := by rw [← h.nc]; exact hj2
        rw [List.getElem?_set_self hl] at ho
        injection ho with ho; subst ho
        intro b hb
        rw [kj2] at hb; exact hb
      · rw [List.getElem?_set_ne (fun e' => e2 e'.symm)] at ho
        have hil : i < c.n := by rw [h.nc]; exact (List.getElem?_eq_some_iff.1 ho).1
        exact osat_keep st hil (ko i e e2) (fun h => h) ⟨rfl, rfl⟩ (fun k hk => hw k (fun e' => e (h.ob.dj i j b hil hj (e' ▸ hk) hb))) (h.o i o ho)
  · have hi' : i < c.n := hi
    have hk' : k < c.n := hk
    rcases old i b h1 with ⟨ei, p1⟩ | ⟨e1, e2, p1⟩ <;> rcases old k b h2 with ⟨ek, p2⟩ | ⟨e3, e4, p2⟩
    · rw [ei, ek]
    · rcases p1 with p1 | p1
      · exact absurd (h.ob.dj _ _ b hj hk' p1 p2).symm e3
      · exact absurd (h.ob.dj _ _ b hj2 hk' p1 p2).symm e4
    · rcases p2 with p2 | p2
      · exact absurd (h.ob.dj _ _ b hi' hj p1 p2) e1
      · exact absurd (h.ob.dj _ _ b hi' hj2 p1 p2) e2
    · exact h.ob.dj _ _ b hi' hk' p1 p2
  · rcases old i b hk with ⟨rfl, h1 | h1⟩ | ⟨e1, e2, h1⟩
    · exact ⟨(h.ob.kb _ b hj h1).1, by show b < w'.heap.size; rw [hs]; exact (h.ob.kb _ b hj h1).2⟩
    · exact ⟨(h.ob.kb _ b hj2 h1).1, by show b < w'.heap.size; rw [hs]; exact (h.ob.kb _ b hj2 h1).2⟩
    · exact ⟨(h.ob.kb _ b hi h1).1, by show b < w'.heap.size; rw [hs]; exact (h.ob.kb _ b hi h1).2⟩
  · rcases old i b hk with ⟨rfl, h1 | h1⟩ | ⟨e1, e2, h1⟩
    · exact h.kx _ b hj h1 hlt
    · exact h.kx _ b hj2 h1 hlt
    · exact h.kx _ b hi h1 hlt
end
end Go.Proofs.Ytdhpjpidcbplbaa.Eng

/- ENGINE 2, 4B: boxes, loads, stores. -/
namespace Go.Proofs.Ytdhpjpidcbplbaa.Eng
open Go Go.RowKit
theorem run_box (P : Program) (w : World) (t : TypeId) (x : Value) : (Instr.box t x).run P w = .ok (.pointer (some ⟨w.heap.size, 0, none⟩)) (w.alloc (.cells x.cells t)) := rfl
theorem alloc_new (w : World) (o : Obj) : (w.alloc o).heap[w.heap.size]? = some o := by
  show (w.heap.push _)[w.heap.size]? = _
  simp
theorem alloc_old (w : World) (o : Obj) {b : Nat} (hb : b < w.heap.size) : (w.alloc o).heap[b]? = w.heap[b]? := Below.heap_alloc w _ b hb
theorem alloc_size (w : World) (o : Obj) : (w.alloc o).heap.size = w.heap.size + 1 := World.size_alloc _ _
section
variable {P : Program} {W0 : World} {X : Bd} {N : Nat} {c : Cx} {fr : Fr} {hp : List AO} {nx : Nat} {a : Act} {o : Oper} {ρ : Operand → AV}
theorem Gam.cells (h : Gam W0 X N c fr hp nx a) {ix n' : Nat} {hp' : List AO} {l : AV} {cs : Array Value} {t : TypeId} (hs : sat l c cs.toList)
    (hix : (ix = c.n ∧ n' = c.n + 1 ∧ hp' = hp ++ [.cells l]) ∨ (hp[ix]? = some .void ∧ n' = c.n ∧ hp' = hp.set ix (.cells l))) :
    ∃ c', c'.w = c.w.alloc (.cells cs t) ∧ Gam W0 X N c' fr hp' hp'.length a ∧ sat (.ptr ix 0) c' [.pointer (some ⟨c.w.heap.size, 0, none⟩)] := by
  have key := h.add (w' := c.w.alloc (.cells cs t)) (ix := ix) (n' := n') (ln := 0) (k := (· = c.w.heap.size)) (lo := some c.w.heap.size) (v := .bool true) (hv := at0_bool true) (ob := .cells l) (fun _ => False) hix (fun b hb => hb.elim)
    (by rw [alloc_size]; omega) (fun b hb _ => alloc_old _ _ hb) rfl rfl rfl (fun g hg => by have hg : g = c.w.heap.size := hg; subst hg; rw [alloc_size]; omega)
  have hin : ix < n' := by
    rcases hix with ⟨e1, e2, _⟩ | ⟨e1, e2, _⟩
    · omega
    · have := (List.getElem?_eq_some_iff.1 e1).1; have := h.nc; omega
  have hvoid : ix < c.n → (∀ b, ¬ c.key ix b) ∧ c.loc ix = none ∧ c.val ix = .bool false := fun hlt => by
    rcases hix with ⟨e, _⟩ | ⟨e, _⟩
    · omega
    · exact h.o ix _ e
  have st : Step c (c.add (c.w.alloc (.cells cs t)) ix (· = c.w.heap.size) (some c.w.heap.size) (.bool true) 0 n' (at0_bool true)) := by
    refine ⟨by rcases hix with ⟨_, e, _⟩ | ⟨_, e, _⟩ <;> (show c.n ≤ n'; omega), fun i b hi hl => (updF_ne _ _ (fun e => by rw [e, (hvoid (e ▸ hi)).2.1] at hl; cases hl)).trans hl, fun i hi hne => ?_, fun b hO hlt h' => ?_, by show _ ≤ (c.w.alloc (.cells cs t)).heap.size; rw [alloc_size]; omega, fun b _ hb => alloc_old _ _ hb, Nat.le_refl _⟩
    · have : i ≠ ix := fun e => hne (by rw [e]; exact (hvoid (e ▸ hi)).2.2)
      exact ⟨updF_ne _ _ this, updF_ne _ _ this⟩
    · rcases h' with h' | h'
      · exact hO h'
      · have h' : b = c.w.heap.size := h'; omega
  obtain ⟨hG, _⟩ := key ⟨c.w.heap.size, cs, t, updF_at _ _ _, fun b' => by rw [show (c.add (c.w.alloc (.cells cs t)) ix (· = c.w.heap.size) (some c.w.heap.size) (.bool true) 0 n' (at0_bool true)).key ix = _ from updF_at _ _ _], alloc_new _ _, sat_step _ st hs⟩
  exact ⟨_, rfl, hG, hin, c.w.heap.size, updF_at _ _ _, rfl⟩
theorem good_move (x : Operand) (hop : o.op = .move x ∨ o.op = .assign x) (hx : sat (ρ x) c [a.eval x]) : OKv P c a o (ρ x) := by
  refine ⟨a.eval x, ?_, hx⟩
  rcases hop with hop | hop <;> (unfold execOp; rw [hop]; rfl)
theorem nx_len (h : Gam W0 X N c fr hp nx a) (ob : AO) : nx + 1 = (hp ++ [ob]).length := by rw [h.nl]; simp
theorem nx_set (h : Gam W0 X N c fr hp nx a) (i : Nat) (ob : AO) : nx = (hp.set i ob).length := by rw [h.nl]; simp
theorem nx_n (h : Gam W0 X N c fr hp nx a) : nx = c.n := by rw [h.nl, h.nc]
theorem good_box (h : Gam W0 X N c fr hp nx a) (t : TypeId) (x : Operand) (hop : o.op = .box t x) (hx : sat (ρ x) c [a.eval x]) :
    GoodR P W0 X N c fr hp nx a o (lift (cellsOf (ρ x)) fun l => .new (.ptr nx 0) (.cells l)) := by
  refine lift_good fun l hl => ?_
  obtain ⟨c', hw, hg, hs⟩ := h.cells (t := t) (cellsOf_ok hl hx).1 (.inl ⟨nx_n h, rfl, rfl⟩)
  refine ⟨_, c', ?_, by rw [nx_len h]; exact hg, hs⟩
  unfold execOp; rw [hop]
  simp only [Sem.run_bind, run_box, Result.andThen_ok, Sem.run_pure, hw]
theorem run_alloc {t : TypeId} {i : TI} (hi : TIok P t i) {z : Value} (hz : i.ze = some z) (w : World) : (Instr.alloc t true (.tuple #[])).run P w = .ok (.pointer (some ⟨w.heap.size, 0, none⟩)) (w.alloc (.cells z.cells t)) := by
  have hze := hi.ze z hz
  cases hq : P.info? t with
  | none => simp [hq] at hze
  | some ti =>
    simp [hq] at hze
    simp [Sem.run_bind, Instr.alloc, zeroValue, typeInfo, hq, hze, Result.andThen_ok, Sem.run_pure]
    rfl
theorem good_alloc (h : Gam W0 X N c fr hp nx a) (t : TypeId) (hop : o.op = .alloc t) (i : TI) (hi : TIok P t i) (z : Value) (hz : i.ze = some z) :
    GoodR P W0 X N c fr hp nx a o (.new (.ptr nx 0) (.cells (ofValues z.cells.toList))) := by
  obtain ⟨c', hw, hg, hs⟩ := h.cells (t := t) (l := ofValues z.cells.toList) (cs := z.cells) (ofValues_ok c _) (.inl ⟨nx_n h, rfl, rfl⟩)
  refine ⟨_, c', ?_, by rw [nx_len h]; exact hg, hs⟩
  unfold execOp; rw [hop]
  simp only [Sem.run_bind, run_alloc hi hz, Result.andThen_ok, Sem.run_pure, hw]
theorem run_load (w : World) (b o : Nat) (t : TypeId) (i : TI) (hi : TIok P t i) (cs : List Value) (hcs : w.rangeAt b o cs) (hl : cs.length = i.sz) (hag : i.ag = true) :
    (Instr.loadAt t (.pointer (some ⟨b, o, none⟩))).run P w = .ok (.agg cs.toArray) w := by
  have hu := hi.ag
  cases hq : P.underlying t with
  | none => simp [hq] at hu
  | some d => exact run_loadAt_mid w b o t cs d hcs hq (by simpa [hq, hag] using hu) (by rw [hi.sz, hl])
theorem run_load1 (w : World) (b o : Nat) (t : TypeId) (i : TI) (hi : TIok P t i) (x : Value) (hx : w.cell? ⟨b, o, none⟩ = some x) (hag : i.ag = false) :
    (Instr.loadAt t (.pointer (some ⟨b, o, none⟩))).run P w = .ok x w := by
  have hu := hi.ag
  cases hq : P.underlying t with
  | none => simp [hq] at hu
  | some d =>
    have hagg : (isAgg t).run P w = .ok false w := by
      unfold isAgg
      rw [Sem.run_bind, run_underlying hq w]
      have : d.isRow = false := by simpa [hq, hag] using hu
      cases d <;> simp_all
    simp [Instr.loadAt, Instr.sureAddr, Sem.run_bind, loadVar, hagg, load, Sem.run, hx]
theorem getAO_at : ∀ {l : List AO} {j : Nat} {m : AO}, getAO l j = m → m ≠ .dead → l[j]? = some m := by
  intro l j m h hm
  rw [getAO_eq] at h
  cases hq : l[j]? with
  | none => rw [hq] at h; exact absurd h.symm hm
  | some x => rw [hq] at h; simp at h; rw [h]
theorem load_part {b base : Nat} {cs : List Value} {l : AV} (hr : c.w.rangeAt b base cs) (hs : sat l c cs) (t : TypeId) (i : TI) (hi : TIok P t i) (off : Nat) :
    ∀ v, partR i l off = .ok v → ∃ y, (Instr.loadAt t (.pointer (some ⟨b, base + off, none⟩))).run P c.w = .ok y c.w ∧ sat v c [y] := by
  intro v hv
  unfold partR at hv
  cases hag : i.ag with
  | true =>
    simp only [hag, cond_true] at hv
    cases hp : part l off i.sz with
    | none => simp [hp, lift] at hv
    | some p =>
      simp [hp, lift] at hv
      subst hv
      obtain ⟨hle, hsp⟩ := part_ok l off i.sz hp hs
      refine ⟨.agg ((cs.drop off).take i.sz).toArray, ?_, ⟨_, rfl, by simpa using hsp⟩⟩
      refine run_load c.w b (base + off) t i hi _ (fun q v hq => ?_) (by simp; omega) hag
      rw [List.getElem?_take] at hq
      split at hq
      · rw [Nat.add_assoc]; exact hr (off + q) v (by simpa [List.getElem?_drop] using hq)
      · cases hq
  | false =>
    simp only [hag, cond_false] at hv
    cases hp : (part l off 1).bind (nth · 0) with
    | none => simp [hp, lift] at hv
    | some p =>
      simp [hp, lift] at hv
      subst hv
      simp only [Option.bind_eq_some_iff] at hp
      obtain ⟨q, hq1, hq2⟩ := hp
      obtain ⟨hle, hsp⟩ := part_ok l off 1 hq1 hs
      obtain ⟨y, hy, hsy⟩ := nth_ok q 0 hq2 hsp
      refine ⟨y, run_load1 c.w b (base + off) t i hi y ?_ hag, hsy⟩
      rw [List.getElem?_take] at hy
      exact hr off y (by simpa [List.getElem?_drop] using hy)
theorem partR_ok {i : TI} {l : AV} {off : Nat} : (∃ v, partR i l off = .ok v) ∨ partR i l off = .no := by
  unfold partR
  cases i.ag with
  | true =>
    simp only [cond_true]
    cases part l off i.sz with
    | none => exact .inr rfl
    | some p => exact .inl ⟨_, rfl⟩
  | false =>
    simp only [cond_false]
    cases (part l off 1).bind (nth · 0) with
    | none => exact .inr rfl
    | some p => exact .inl ⟨_, rfl⟩
theorem row_elem {j : Nat} {q : Bool} {t : Ty} {e : TypeId} {l : List (El t)} (h : rowAt c j q t e l) {x b : Nat} (hx : x < c.len j) (hb : (c.val j).ownBlock = some b) :
    ∃ cap cur, c.val j = .slice (some ⟨b, 0, none⟩) l.length cap ∧ (∀ b', c.key j b' ↔ b' = b) ∧ rowHeap c.w b cur e ∧ l.length ≤ cap ∧ cap ≤ maxLen ∧ cur.size = cap * tsz t ∧ x < l.length ∧
      ∃ cs : List Value, cs = (cur.toList.drop (x * tsz t)).take (tsz t) ∧ cs.length = tsz t ∧ c.w.rangeAt b (x * tsz t) cs ∧ memE c.w c.O (qb q c.b0) t (getE t l x) cs := by
  obtain ⟨h0, h1, hq, xs, h2, h3, h4⟩ := h
  have hxl : x < l.length := by omega
  rcases h3 with ⟨e1, A, e2, e3⟩ | ⟨g, cap, cur, e1, e2, e3, e4, e5, e6, e7⟩
  · subst e1; simp at hxl
  · have hg : g = b := by rw [e1] at hb; simpa [Value.ownBlock] using hb
    subst hg
    have hm : (x + 1) * tsz t ≤ l.length * tsz t := Nat.mul_le_mul_right _ hxl
    have hm2 : l.length * tsz t ≤ cap * tsz t := Nat.mul_le_mul_right _ e4
    rw [Nat.add_mul] at hm
    have hcs : (xs.drop (x * tsz t)).take (tsz t) = (cur.toList.drop (x * tsz t)).take (tsz t) := by
      rw [← e7, List.drop_take, List.take_take, Nat.min_eq_left (by omega)]
    refine ⟨cap, cur, e1, e2, e3, e4, e5, e6, hxl, _, rfl, by simp; omega, fun p v hp => ?_, ?_⟩
    · rw [List.getElem?_take] at hp
      split at hp
      · rw [e3.cell]
        simpa [List.getElem?_drop] using hp
      · cases hp
    · rw [← hcs]; exact h4 x _ (getE_ok hxl)
theorem mt_elem {j : Nat} {q : Bool} {H : Nat → Nat → Value} {t : Ty} {m : List (Option TypeId)} {e : TypeId} {l : List (El t)} (h : mtAt c j q H t m e l) {x b : Nat} (hx : x < c.len j) (hb : (c.val j).ownBlock = some b) :
    ∃ cap cur, c.val j = .slice (some ⟨b, 0, none⟩) l.length cap ∧ rowHeap c.w b cur e ∧ l.length ≤ cap ∧ cap ≤ maxLen ∧ cur.size = cap * tsz t ∧
        (∀ b', c.key j b' ↔ b' = b ∨ ∃ x o, x < l.length ∧ (ownM m o).isSome = true ∧ blkOf (H x o) = some b') ∧
        (∀ x o, x < l.length → (ownM m o).isSome = true → blkOf (H x o) ≠ some b) ∧
        (∀ x o x' o' b, x < l.length → x' < l.length → (ownM m o).isSome = true → (ownM m o').isSome = true → blkOf (H x o) = some b → blkOf (H x' o') = some b → x = x' ∧ o = o') ∧
        (∀ j y, l[j]? = some y → memM c.w c.O (qb q c.b0) (H j) t m 0 y ((cur.toList.drop (j * tsz t)).take (tsz t))) ∧ x < l.length ∧
      ∃ cs : List Value, cs = (cur.toList.drop (x * tsz t)).take (tsz t) ∧ cs.length = tsz t ∧ c.w.rangeAt b (x * tsz t) cs ∧ memM c.w c.O (qb q c.b0) (H x) t m 0 (getE t l x) cs := by
  obtain ⟨h0, h1, hq, h3⟩ := h
  have hxl : x < l.length := by omega
  rcases h3 with ⟨e1, A, e2, e3⟩ | ⟨g, cap, cur, e1, e2, e3, e4, e5, e6, e7, e8, e9⟩
  · subst e1; simp at hxl
  · have hg : g = b := by rw [e1] at hb; simpa [Value.ownBlock] using hb
    subst hg
    have hm : (x + 1) * tsz t ≤ l.length * tsz t := Nat.mul_le_mul_right _ hxl
    have hm2 : l.length * tsz t ≤ cap * tsz t := Nat.mul_le_mul_right _ e3
    rw [Nat.add_mul] at hm
    refine ⟨cap, cur, e1, e2, e3, e4, e5, e6, e7, e8, e9, hxl, _, rfl, by simp; omega, fun p v hp => ?_, e9 x _ (getE_ok hxl)⟩
    rw [List.getElem?_take] at hp
    split at hp
    · rw [e2.cell]
      simpa [List.getElem?_drop] using hp
    · cases hp
theorem blkOf_cap {g n cap : Nat} (h : 0 < cap) : blkOf (.slice (some ⟨g, 0, none⟩) n cap) = some g := by
  cases cap with
  | zero => omega
  | succ n => rfl
theorem chunk_range {w : World} {g : Nat} {cur : Array Value} {e : TypeId} {sz x cap : Nat} (h : rowHeap w g cur e) : w.rangeAt g (x * sz) ((cur.toList.drop (x * sz)).take sz) := fun p v hp => by
  rw [List.getElem?_take] at hp
  split at hp
  · rw [h.cell]
    simpa [List.getElem?_drop] using hp
  · cases hp
theorem fz_elem {j : Nat} {q : Bool} {t : Ty} {l : List (El t)} (h : osat (.fz q t l) c j) {x b : Nat} (hx : x < c.len j) (hb : (c.val j).ownBlock = some b) :
    ∃ ad : Addr, ad.block = b ∧ ad.spot = none ∧ ∃ cs : List Value, cs.length = tsz t ∧ c.w.rangeAt b (ad.off + x * tsz t) cs ∧ memE c.w c.O (qb q c.b0) t (getE t l x) cs ∧ ad.off = 0 := by
  obtain ⟨h1, h2, ⟨A, m, e, hm, hL⟩, hz⟩ := h
  obtain ⟨ad, rfl, hsp, hO, hlt, hb0, cs, hc, hr, hE⟩ := hL x _ (getE_ok (by omega))
  have hv : c.val j = .slice (some ad) l.length m := by simpa using e
  have : ad.block = b := by rw [hv] at hb; simpa [Value.ownBlock] using hb
  subst this
  exact ⟨ad, rfl, hsp, cs, hc, hr, hE, hz ad _ m hv (by omega)⟩
theorem good_load (h : Gam W0 X N c fr hp nx a) (t : TypeId) (x : Operand) (hop : o.op = .load t x) (i : TI) (hi : TIok P t i) (hx : sat (ρ x) c [a.eval x]) :
    GoodR P W0 X N c fr hp nx a o (loadR i hp (ρ x)) := by
  have fin : ∀ (v : AV) (y : Value), (Instr.loadAt t (a.eval x)).run P c.w = .ok y c.w → sat v c [y] → OKv P c a o v := fun v y hr hv => by
    refine ⟨y, ?_, hv⟩
    unfold execOp; rw [hop]
    simp only [Sem.run_bind, hr, Result.andThen_ok, Sem.run_pure]
  have viaPart : ∀ {b base off : Nat} {cs : List Value} {l : AV}, c.w.rangeAt b base cs → sat l c cs → a.eval x = .pointer (some ⟨b, base + off, none⟩) → GoodR P W0 X N c fr hp nx a o (partR i l off) := by
    intro b base off cs l hr hs e
    rcases partR_ok (i := i) (l := l) (off := off) with ⟨v, hv⟩ | hv
    · rw [hv]
      obtain ⟨y, hy, hsy⟩ := load_part hr hs t i hi off v hv
      exact fin v y (by rw [e]; exact hy) hsy
    · rw [hv]; trivial
  generalize ρ x = r at hx
  cases r with
  | ptr j q =>
    simp only [loadR]
    split
    · rename_i l hj
      obtain ⟨hjn, b, hk, e⟩ := hx
      obtain ⟨b', cs, ty, hk', _, hh, hs⟩ := h.o j _ (getAO_at hj (by simp))
      rw [hk] at hk'; injection hk' with hk'; subst hk'
      refine viaPart (b := b) (base := 0) (cs := cs.toList) (fun p v hp => ?_) hs (by simpa using e)
      simp [World.cell?, hh]
      simpa using hp
    · trivial
  | rp k e q =>
    obtain ⟨b, q0, hv, hO, hb, hc⟩ := hx
    have hv' : a.eval x = .pointer (some ⟨b, q0 + q, none⟩) := by simpa using hv
    simp only [loadR]
    cases hag : i.ag with
    | true =>
      simp only [cond_true]
      cases hle : Nat.ble (q + i.sz) k with
      | false => trivial
      | true =>
        have hle' : q + i.sz ≤ k := Nat.le_of_ble_eq_true hle
        simp only [cond_true]
        have hg : ∀ m, ∀ j0, j0 + m ≤ k → ∃ cs : List Value, cs.length = m ∧ ∀ j, j < m → ∃ y, cs[j]? = some y ∧ c.w.cell? ⟨b, q0 + (j0 + j), none⟩ = some y ∧ sat (e (j0 + j)) c.bare [y] := by
          intro m
          induction m with
          | zero => exact fun j0 _ => ⟨[], rfl, fun j hj => absurd hj (Nat.not_lt_zero _)⟩
          | succ m ih =>
            intro j0 hj0
            obtain ⟨y, hy, hsy⟩ := hc j0 (by omega)
            obtain ⟨cs, hl, hcs⟩ := ih (j0 + 1) (by omega)
            refine ⟨y :: cs, by simp [hl], fun j hj => ?_⟩
            cases j with
            | zero => exact ⟨y, rfl, hy, hsy⟩
            | succ j =>
              obtain ⟨z, hz, h1, h2⟩ := hcs j (by omega)
              exact ⟨z, by simpa using hz, by rw [show q0 + (j0 + (j + 1)) = q0 + (j0 + 1 + j) by omega]; exact h1, by rw [show j0 + (j + 1) = j0 + 1 + j by omega]; exact h2⟩
        obtain ⟨cs, hl, hcs⟩ := hg i.sz q hle'
        refine fin _ (.agg cs.toArray) ?_ ⟨cs.toArray, rfl, ofFn_ok i.sz q hl fun j hj => ?_⟩
        · rw [hv']
          refine run_load c.w b (q0 + q) t i hi cs (fun j v hj => ?_) hl hag
          have hjl : j < i.sz := by rw [← hl]; exact (List.getElem?_eq_some_iff.1 hj).1
          obtain ⟨y, hy, hcell, _⟩ := hcs j hjl
          rw [hj] at hy; injection hy with hy; subst hy
          rw [show q0 + q + j = q0 + (q + j) by omega]; exact hcell
        · obtain ⟨y, hy, _, hsy⟩ := hcs j hj
          exact ⟨y, by simpa using hy, sat_bare _ hsy⟩
    | false =>
      simp only [cond_false]
      cases hlt : Nat.blt q k with
      | false => trivial
      | true =>
        have hlt' : q < k := by simpa [Nat.blt_eq] using hlt
        obtain ⟨y, hy, hsy⟩ := hc q hlt'
        refine fin _ y ?_ (sat_bare _ hsy)
        rw [hv']
        exact run_load1 c.w b (q0 + q) t i hi y hy hag
  | op j k y q =>
    obtain ⟨hjn, hyl, b, hb, e⟩ := hx
    have e' : a.eval x = .pointer (some ⟨b, y * k + q, none⟩) := by simpa using e
    simp only [loadR]
    split
    · rename_i qq τ ee l hj
      cases hk : Nat.beq (tsz τ) k with
      | false => trivial
      | true =>
        have hk' := Nat.eq_of_beq_eq_true hk
        subst hk'
        obtain ⟨_, _, _, _, _, _, _, _, _, cs, _, _, hr, hE⟩ := row_elem (h.o j _ (getAO_at hj (by simp))) hyl hb
        exact viaPart hr (encC_ok τ _ _ hE) e'
    · rename_i qq τ l hj
      cases hk : Nat.beq (tsz τ) k with
      | false => trivial
      | true =>
        have hk' := Nat.eq_of_beq_eq_true hk
        subst hk'
        have hobj := h.o j _ (getAO_at hj (by simp))
        obtain ⟨ad, rfl, hsp, cs, hc, hr, hE, hz⟩ := fz_elem hobj hyl hb
        rw [hz, Nat.zero_add] at hr
        exact viaPart hr (encC_ok τ _ _ hE) e'
    · rename_i qq H τ m ee l hj
      cases hk : Nat.beq (tsz τ) k with
      | false => trivial
      | true =>
        have hk' := Nat.eq_of_beq_eq_true hk
        subst hk'
        obtain ⟨_, _, _, _, _, _, _, _, _, _, _, _, cs, _, _, hr, hM⟩ := mt_elem (h.o j _ (getAO_at hj (by simp))) hyl hb
        exact viaPart hr (encM_ok ⟨hjn, hyl, b, hb⟩ τ _ _ _ _ hM) e'
    · trivial
  | ip j xx oo k y z hd =>
    obtain ⟨⟨hjn, hyl, b, hb⟩, g, n, mm, ehd, hyn, e⟩ := hx
    have e' : a.eval x = .pointer (some ⟨g, y * k + z, none⟩) := by simpa using e
    simp only [loadR]
    split
    · rename_i qq H τ m ee l hj
      refine innerK_ok (w := c.w) (O := c.O) (b := qb qq c.b0) (no := R.no) (PP := GoodR P W0 X N c fr hp nx a o) trivial τ oo _ _ fun ty L hin => ?_
      cases hk : (Nat.beq (tsz ty) k && (ownM m oo).isSome) with
      | false => trivial
      | true =>
        simp only [Bool.and_eq_true] at hk
        have hk' := Nat.eq_of_beq_eq_true hk.1
        subst hk'
        simp only [cond_true]
        rcases partR_ok (i := i) (l := encC qq ty (getE ty L y)) (off := z) with ⟨v, hv⟩ | hv
        · rw [hv]
          intro hH
          obtain ⟨_, _, _, _, _, _, _, _, _, _, _, _, cs, _, _, hr, hM⟩ := mt_elem (h.o j _ (getAO_at hj (by simp))) hyl hb
          obtain ⟨e0, hoe⟩ := Option.isSome_iff_exists.1 hk.2
          obtain ⟨_, hI⟩ := hin (H xx) m 0 cs e0 hoe hM
          rw [Nat.zero_add, hH] at hI
          obtain ⟨h0, ⟨rfl, A, e1⟩ | ⟨g', cap, cur, e1, e2, e3, e4, e5, e6, e7⟩⟩ := hI
          · rw [ehd] at e1; injection e1 with _ e1; omega
          · rw [ehd] at e1
            injection e1 with e1 e1b
            injection e1 with e1
            injection e1 with e1
            subst e1
            obtain ⟨yv, hy1, hy2⟩ := load_part (c := c) (b := g) (base := y * tsz ty) (chunk_range (cap := cap) e3) (encC_ok ty _ _ (e7 y _ (getE_ok (by omega)))) t i hi z v hv
            exact fin v yv (by rw [e']; exact hy1) hy2
        · rw [hv]; trivial
    · trivial
  | mq j tk xk k y z hd =>
    obtain ⟨⟨hjn, bm, hbm⟩, g, n, mm, ehd, hyn, e⟩ := hx
    have e' : a.eval x = .pointer (some ⟨g, y * k + z, none⟩) := by simpa using e
    simp only [loadR]
    split
    · rename_i ka va kt ty e0 it l hj
      refine castE_ok (P := GoodR P W0 X N c fr hp nx a o) (no := R.no) trivial fun hkt => ?_
      subst hkt
      cases hk : Nat.beq (tsz ty) k with
      | false => trivial
      | true =>
        have hk' := Nat.eq_of_beq_eq_true hk
        subst hk'
        simp only [cond_true]
        have hin := lst_in (h.o j _ (getAO_at hj (by simp))) xk
        rcases partR_ok (i := i) (l := encC false ty (getE ty (lstM tk xk l).2 y)) (off := z) with ⟨v, hv⟩ | hv
        · rw [hv]
          intro hH
          rcases hin with ⟨_, h0⟩ | ⟨kk, vv, _, _, _, h0, hI⟩
          · rw [h0, ehd] at hH; injection hH with hH; cases hH
          · rw [h0] at hv hH
            rw [hH] at hI
            obtain ⟨h1, ⟨hl0, A, e1⟩ | ⟨g', cap, cur, e1, e2, e3, e4, e5, e6, e7⟩⟩ := hI
            · rw [ehd] at e1; injection e1 with _ e1; omega
            · rw [ehd] at e1
              injection e1 with e1 e1b
              injection e1 with e1
              injection e1 with e1
              subst e1
              obtain ⟨yv, hy1, hy2⟩ := load_part (c := c) (b := g) (base := y * tsz ty) (chunk_range (cap := cap) e3) (encC_ok ty _ _ (e7 y _ (getE_ok (by omega)))) t i hi z v hv
              exact fin v yv (by rw [e']; exact hy1) hy2
        · rw [hv]; trivial
    · trivial
  | _ => trivial
theorem upd_get {α : Type} (L vals : List α) (p n : Nat) (h : p + vals.length ≤ L.length) : (L.take p ++ vals ++ L.drop (p + vals.length))[n]? = if n < p then L[n]? else if n < p + vals.length then vals[n - p]? else L[n]? := by
  by_cases h1 : n < p
  · rw [if_pos h1, List.append_assoc, List.getElem?_append_left (by simp; omega), List.getElem?_take, if_pos h1]
  · rw [if_neg h1]
    by_cases h2 : n < p + vals.length
    · rw [if_pos h2, List.getElem?_append_left (by simp; omega), List.getElem?_append_right (by simp; omega)]
      congr 1
      simp; omega
    · rw [if_neg h2, List.getElem?_append_right (by simp; omega), List.getElem?_drop]
      congr 1
      simp; omega
theorem chunk_upd {α : Type} (L vals : List α) (sz x o n : Nat) (ho : o + vals.length ≤ sz) (hx : x < n) (hn : n * sz ≤ L.length) (j : Nat) :
    ((L.take (x * sz + o) ++ vals ++ L.drop (x * sz + o + vals.length)).drop (j * sz)).take sz = if j = x then (((L.drop (x * sz)).take sz).take o ++ vals ++ ((L.drop (x * sz)).take sz).drop (o + vals.length)) else (L.drop (j * sz)).take sz := by
  have hm : (x + 1) * sz ≤ n * sz := Nat.mul_le_mul_right _ hx
  rw [Nat.add_mul] at hm
  refine List.ext_getElem? fun p => ?_
  rw [List.getElem?_take, List.getElem?_drop, upd_get _ _ _ _ (by omega)]
  by_cases hjx : j = x
  · subst hjx
    rw [if_pos rfl, upd_get _ _ _ _ (by simp; omega)]
    simp only [List.getElem?_take, List.getElem?_drop]
    by_cases hp : p < sz
    · simp only [if_pos hp]
      by_cases h1 : p < o
      · rw [if_pos (by omega), if_pos h1]
      · rw [if_neg (by omega), if_neg h1]
        by_cases h2 : p < o + vals.length
        · rw [if_pos (by omega), if_pos h2]; congr 1; omega
        · rw [if_neg (by omega), if_neg h2]
    · simp only [if_neg hp]
      rw [if_neg (by omega), if_neg (by omega)]
  · rw [if_neg hjx]
    simp only [List.getElem?_take, List.getElem?_drop]
    by_cases hp : p < sz
    · simp only [if_pos hp]
      rcases Nat.lt_or_gt_of_ne hjx with hlt | hgt
      · have : (j + 1) * sz ≤ x * sz := Nat.mul_le_mul_right _ hlt
        rw [Nat.add_mul] at this
        rw [if_pos (by omega)]
      · have : (x + 1) * sz ≤ j * sz := Nat.mul_le_mul_right _ hgt
        rw [Nat.add_mul] at this
        rw [if_neg (by omega), if_neg (by omega)]
    · simp only [if_neg hp]
theorem run_store {t : TypeId} {i : TI} (hi : TIok P t i) {w : World} {b q : Nat} {cs : Array Value} {ty : TypeId} (hh : rowHeap w b cs ty) {v : Value} (hlen : v.cells.toList.length = i.sz) (hle : q + v.cells.toList.length ≤ cs.size) (hone : ∀ y ∈ v.cells.toList, y.oneCell' = true) :
    (Instr.storeAt t (.pointer (some ⟨b, q, none⟩)) v).run P w = .ok () (w.setRow b (cs.toList.take q ++ v.cells.toList ++ cs.toList.drop (q + v.cells.toList.length)).toArray) := by
  have hrun := run_storeCells_mk P b q ty v.cells.toList 0 cs w hh (by simpa using hle) hone
  have hsize : (sizeOf t).run P w = .ok i.sz w := by
    have := hi.sz
    cases hq : P.info? t with
    | none => simp [hq] at this
    | some ti => simp [hq] at this; simp [sizeOf, typeInfo, hq, this, Sem.run_bind]
  have hne : ¬ (v.cells.size ≠ i.sz) := by
    intro hh; apply hh; simpa using hlen
  simp only [Instr.storeAt, Instr.sureAddr, Sem.run_bind, Sem.run_pure, Result.andThen_ok, storeVar, hsize, if_neg hne, hrun]
  simp only [Nat.add_zero]
theorem hasN_ok : ∀ (l : List Nat) (i : Nat), hasN l i = false → ¬ i ∈ l
  | [], _, _, h => by cases h
  | x :: r, i, h, hm => by
    simp only [hasN, Bool.or_eq_false_iff] at h
    rcases List.mem_cons.1 hm with rfl | hm
    · simp at h
    · exact hasN_ok r i h.2 hm
theorem list_set_cut {α : Type} (cs : List α) (q : Nat) (x : α) (h : q < cs.length) : cs.take q ++ [x] ++ cs.drop (q + 1) = cs.set q x := by
  rw [List.set_eq_take_append_cons_drop, if_pos h]; simp
theorem store_own (h : Gam W0 X N c fr hp nx a) {t : TypeId} {i : TI} (hi : TIok P t i) {x y : Operand} (run : ∀ {w w' : World}, (Instr.storeAt t (a.eval x) (a.eval y)).run P w = .ok () w' → (execOp a.eval o).run P w = .ok .skip w')
    {j z q : Nat} {qq : Bool} {H : Nat → Nat → Value} {τ : Ty} {m : List (Option TypeId)} {ee : TypeId} {l : List (El τ)} (hj : getAO hp j = .mt qq H τ m ee l) (hx : sat (.op j (tsz τ) z q) c [a.eval x]) {j2 : Nat} {e' : TypeId} (hm : ownM m q = some e') {q' : Bool} {ty : Ty} {L : List (El ty)} (hj2 : getAO hp j2 = .row q' ty e' L) (hne : j2 ≠ j) (hj2n : j2 < c.n) (h0 : 0 < tsz ty) (hsz : i.sz = 1) (hcells : (a.eval y).cells.toList = [c.val j2])
    {y' : El τ} (hu : UpdAt τ q (getE τ l z) ty L y') :
    ∃ hd c', (execOp a.eval o).run P c.w = .ok .skip c'.w ∧ Gam W0 X N c' fr (setAO (setAO hp j2 .dead) j (.mt (qq && q') (updH H z q hd) τ m ee (l.set z y'))) (setAO (setAO hp j2 .dead) j (.mt (qq && q') (updH H z q hd) τ m ee (l.set z y'))).length a := by
  obtain ⟨hjn, hzl, b, hb, e⟩ := hx
  have e2 : a.eval x = .pointer (some ⟨b, z * tsz τ + q, none⟩) := by simpa using e
  have hmt : mtAt c j qq H τ m ee l := h.o j _ (getAO_at hj (by simp))
  have hrow : rowAt c j2 q' ty e' L := h.o j2 _ (getAO_at hj2 (by simp))
  obtain ⟨cap, cur, ev, eh, ec, em, es, ek, ene, einj, eall, hzl2, cs, hcs, hcl, hr, hM⟩ := mt_elem hmt hzl hb
  have hone := c.one j2
  have hqt := hu.1
  have hmz : (z + 1) * tsz τ ≤ l.length * tsz τ := Nat.mul_le_mul_right _ hzl2
  have hmc : l.length * tsz τ ≤ cap * tsz τ := Nat.mul_le_mul_right _ ec
  rw [Nat.add_mul] at hmz
  have hcurl : cur.toList.length = cap * tsz τ := by rw [Array.length_toList]; exact es
  have hstore := run_store (P := P) hi (w := c.w) (b := b) (q := z * tsz τ + q) (v := a.eval y) eh (by rw [hcells, hsz]; rfl) (by rw [hcells, es]; simp only [List.length_singleton]; omega) (by rw [hcells]; intro v hv; rw [List.mem_singleton.1 hv]; exact hone)
  rw [hcells] at hstore
  simp only [List.length_singleton] at hstore
  generalize hcur' : (cur.toList.take (z * tsz τ + q) ++ [c.val j2] ++ cur.toList.drop (z * tsz τ + q + 1)).toArray = cur' at hstore
  have hLlen : cur'.size = cur.size := by rw [← hcur']; simp; rw [es]; omega
  have hblk : ∀ b', blkOf (c.val j2) = some b' → c.key j2 b' := by
    intro b' hb'
    obtain ⟨_, _, _, xs, _, h3, _⟩ := hrow
    rcases h3 with ⟨e1, A, e2, e3⟩ | ⟨g2, cap2, cur2, e1, e2, _⟩
    · rw [e2] at hb'; cases A <;> cases hb'
    · rw [e1] at hb'
      cases cap2 with
      | zero => cases hb'
      | succ n => injection hb' with hb'; subst hb'; exact (e2 _).2 rfl
  have hdis : ∀ b', c.key j b' → c.key j2 b' → False := fun b' k1 k2 => hne (h.ob.dj j2 j b' hj2n hjn k2 k1)
  have hkb : c.key j b := (ek b).2 (.inl rfl)
  have hHk : ∀ x o, x < l.length → (ownM m o).isSome = true → ∀ b', blkOf (H x o) = some b' → c.key j b' := fun x o h1 h2 b' h3 => (ek b').2 (.inr ⟨x, o, h1, h2, h3⟩)
  have hop : (ownM m q).isSome = true := by rw [hm]; rfl
  obtain ⟨hG, _⟩ := h.join2 (j := j) (j2 := j2) (b := b) (K := fun b' => b' = b ∨ ∃ x o, x < l.length ∧ (ownM m o).isSome = true ∧ blkOf (updH H z q (c.val j2) x o) = some b') (w' := c.w.setRow b cur') (ob := .mt (qq && q') (updH H z q (c.val j2)) τ m ee (l.set z y')) hjn hj2n hne
    (fun b' hb' => by
      rcases hb' with rfl | ⟨x, o, h1, h2, h3⟩
      · exact .inl hkb
      · by_cases hxo : x = z ∧ o = q
        · rw [hxo.1, hxo.2, updH_at] at h3; exact .inr (hblk b' h3)
        · rw [updH_ne _ _ hxo] at h3; exact .inl (hHk x o h1 h2 b' h3)) hkb (size_setRow _ _ _) (fun k hkb => setRow_other _ _ _ _ hkb) rfl rfl rfl (fun st => by
      have kp1 := st.keeps (q := qq) (q' := qq && q') (by simp; exact fun h _ => h)
      have kp2 := st.keeps (q := q') (q' := qq && q') (by simp)
      have hin : memIn (c.w.setRow b cur') c.O (qb (qq && q') c.b0) e' ty L (c.val j2) := by
        refine ⟨h0, ?_⟩
        obtain ⟨_, _, _, xs, r2, h3, h4⟩ := hrow
        rcases h3 with ⟨e1, A, e2, e3⟩ | ⟨g2, cap2, cur2, e1, e2, e3, e4, e5, e6, e7⟩
        · exact .inl ⟨e1, A, e2⟩
        · rcases Nat.eq_zero_or_pos cap2 with hc0 | hc0
          · subst hc0
            have hL0 : L = [] := List.eq_nil_of_length_eq_zero (by omega)
            subst hL0
            exact .inl ⟨rfl, _, e1⟩
          · have hg2 : g2 ≠ b := fun e => hdis b hkb (e ▸ (e2 g2).2 rfl)
            refine .inr ⟨g2, cap2, cur2, e1, hc0, e3.same (setRow_other _ _ _ _ hg2), e4, e5, e6, fun jj yy hjy => ?_⟩
            have := memE_keeps kp2 ty yy _ (h4 jj yy hjy)
            have hxs : (xs.drop (jj * tsz ty)).take (tsz ty) = (cur2.toList.drop (jj * tsz ty)).take (tsz ty) := by
              have hjl : jj < L.length := (List.getElem?_eq_some_iff.1 hjy).1
              have h5 : (jj + 1) * tsz ty ≤ L.length * tsz ty := Nat.mul_le_mul_right _ hjl
              rw [Nat.add_mul] at h5
              rw [← e7, List.drop_take, List.take_take, Nat.min_eq_left (by omega)]
            rw [hxs] at this
            exact this
      refine ⟨hmt.1, by rw [List.length_set]; exact hmt.2.1, fun hqt g hg => ?_, .inr ⟨b, cap, cur', by rw [List.length_set]; exact ev, eh.set _ hLlen, by rw [List.length_set]; exact ec, em, by rw [hLlen]; exact es, fun b' => ?_, fun x o h1 h2 h3 => ?_, fun x o x' o' b' h1 h2 h3 h4 h5 h6 => ?_, fun jj yy hjy => ?_⟩⟩
      · simp only [Bool.and_eq_true] at hqt
        have hg : (updF (updF c.key j2 noK) j _) j g := hg
        rw [updF_at] at hg
        rcases hg with rfl | ⟨x, o, h1, h2, h3⟩
        · exact hmt.2.2.1 hqt.1 _ hkb
        · by_cases hxo : x = z ∧ o = q
          · rw [hxo.1, hxo.2, updH_at] at h3; exact hrow.2.2.1 hqt.2 _ (hblk g h3)
          · rw [updH_ne _ _ hxo] at h3; exact hmt.2.2.1 hqt.1 _ (hHk x o h1 h2 g h3)
      · show (updF (updF c.key j2 noK) j _) j b' ↔ _
        rw [updF_at, List.length_set]
      · rw [List.length_set] at h1
        by_cases hxo : x = z ∧ o = q
        · rw [hxo.1, hxo.2, updH_at] at h3; exact hdis b hkb (hblk b h3)
        · rw [updH_ne _ _ hxo] at h3; exact ene x o h1 h2 h3
      · rw [List.length_set] at h1 h2
        by_cases hxo : x = z ∧ o = q
        · by_cases hxo' : x' = z ∧ o' = q
          · exact ⟨hxo.1.trans hxo'.1.symm, hxo.2.trans hxo'.2.symm⟩
          · rw [hxo.1, hxo.2, updH_at] at h5
            rw [updH_ne _ _ hxo'] at h6
            exact (hdis b' (hHk x' o' h2 h4 b' h6) (hblk b' h5)).elim
        · by_cases hxo' : x' = z ∧ o' = q
          · rw [hxo'.1, hxo'.2, updH_at] at h6
            rw [updH_ne _ _ hxo] at h5
            exact (hdis b' (hHk x o h1 h3 b' h5) (hblk b' h6)).elim
          · rw [updH_ne _ _ hxo] at h5
            rw [updH_ne _ _ hxo'] at h6
            exact einj x o x' o' b' h1 h2 h3 h4 h5 h6
      · have hjl : jj < l.length := by have := (List.getElem?_eq_some_iff.1 hjy).1; simpa using this
        have hch := chunk_upd cur.toList [c.val j2] (tsz τ) z q l.length (by simp only [List.length_singleton]; omega) hzl2 (by rw [hcurl]; exact hmc) jj
        simp only [List.length_singleton] at hch
        have hcl' : cur'.toList = cur.toList.take (z * tsz τ + q) ++ [c.val j2] ++ cur.toList.drop (z * tsz τ + q + 1) := by rw [← hcur']
        rw [hcl', hch]
        by_cases hjz : jj = z
        · subst hjz
          rw [if_pos rfl, ← hcs, list_set_cut _ _ _ (by rw [hcl]; exact hqt)]
          have hyy : yy = y' := by
            rw [List.getElem?_set_self (by omega)] at hjy
            simpa using hjy.symm
          subst hyy
          have := hu.2 c.w (c.w.setRow b cur') c.O c.O (qb qq c.b0) (qb (qq && q') c.b0) (H jj) (updH H jj q (c.val j2) jj) m 0 cs e' hm hM kp1 (fun p' hp' ho g hg => setRow_other _ _ _ _ (fun e => by
            rw [Nat.zero_add] at hg
            exact ene jj p' hzl2 ho (e ▸ hg))) (fun p' hp' => by rw [Nat.zero_add]; exact updH_ne _ _ (fun hh => hp' hh.2)) (by rw [Nat.zero_add, updH_at]; exact hin)
          rw [Nat.zero_add, updH_at] at this
          exact this
        · rw [if_neg hjz]
          rw [List.getElem?_set_ne (fun e => hjz e.symm)] at hjy
          refine memM_congr τ m 0 yy _ (fun p hp => updH_ne _ _ (fun hh => hjz hh.1)) (memM_keeps kp1 τ m 0 yy _ (fun p hp g hg => setRow_other _ _ _ _ (fun e => ?_)) (eall jj yy hjy))
          rw [Nat.zero_add] at hg
          exact ene jj p hjl hp (e ▸ hg))
  have hrun : (execOp a.eval o).run P c.w = .ok .skip (c.w.setRow b cur') := run (by rw [e2]; exact hstore)
  rw [← setAO_eq, ← setAO_eq] at hG
  exact ⟨c.val j2, _, hrun, hG⟩
theorem store_in (h : Gam W0 X N c fr hp nx a) {t : TypeId} {i : TI} (hi : TIok P t i) {x y : Operand} (run : ∀ {w w' : World}, (Instr.storeAt t (a.eval x) (a.eval y)).run P w = .ok () w' → (execOp a.eval o).run P w = .ok .skip w')
    {j xx oo yy z : Nat} {hd : Value} {qq : Bool} {H : Nat → Nat → Value} {τ : Ty} {m : List (Option TypeId)} {ee : TypeId} {l : List (El τ)} (hj : getAO hp j = .mt qq H τ m ee l) {ty : Ty} {L : List (El ty)} (hx : sat (.ip j xx oo (tsz ty) yy z hd) c [a.eval x]) (hin : InAt c.w c.O (qb qq c.b0) τ oo (getE τ l xx) ty L) (hos : (ownM m oo).isSome = true)
    {l' c' : AV} (hl' : lenIs l' i.sz = true) (hs' : sat l' c (a.eval y).cells.toList) (hone : ∀ v ∈ (a.eval y).cells.toList, v.oneCell' = true) (hc' : setc (encC qq ty (getE ty L yy)) z l' = some c') :
    GoodR P W0 X N c fr hp nx a o (decK ty c' .no fun q' y' => updS .no τ oo (getE τ l xx) ty (L.set yy y') fun x' => .act 0 (H xx oo = hd) .u (setAO hp j (.mt (qq && q') H τ m ee (l.set xx x')))) := by
  by_cases hH : H xx oo = hd
  case neg => exact decK_any (PP := GoodR P W0 X N c fr hp nx a o) (no := R.no) trivial ty c' _ fun q' y' => updS_ok (no := R.no) (PP := GoodR P W0 X N c fr hp nx a o) trivial τ oo _ ty _ _ fun x' _ => fun hH' => absurd hH' hH
  obtain ⟨⟨hjn, hxl, b, hb⟩, g, n, mm, ehd, hyn, e⟩ := hx
  have e2 : a.eval x = .pointer (some ⟨g, yy * tsz ty + z, none⟩) := by simpa using e
  have hmt : mtAt c j qq H τ m ee l := h.o j _ (getAO_at hj (by simp))
  obtain ⟨cap, cur, ev, eh, ec, em, es, ek, ene, einj, eall, hxl2, cs, hcs, hcl, hr, hM⟩ := mt_elem hmt hxl hb
  obtain ⟨e0, hoe⟩ := Option.isSome_iff_exists.1 hos
  obtain ⟨hcsq, hI⟩ := hin (H xx) m 0 cs e0 hoe hM
  rw [Nat.zero_add] at hcsq hI
  obtain ⟨h0, hI2⟩ := hI
  rw [hH] at hI2
  rcases hI2 with ⟨rfl, A, e1⟩ | ⟨g', cap2, cur2, e1, e2b, e3, e4, e5, e6, e7⟩
  · rw [ehd] at e1; injection e1 with _ e1; omega
  · rw [ehd] at e1
    injection e1 with q1 q2 q3
    injection q1 with q1
    injection q1 with q1
    subst q1
    have hyL : yy < L.length := by omega
    have hg : blkOf (H xx oo) = some g := by rw [hH, ehd, q3]; exact blkOf_cap e2b
    have hkg : c.key j g := (ek g).2 (.inr ⟨xx, oo, hxl2, hos, hg⟩)
    have hgb : g ≠ b := fun e => ene xx oo hxl2 hos (e ▸ hg)
    obtain ⟨hle, hs2⟩ := setc_ok _ z l' hc' (encC_ok ty _ _ (e7 yy _ (getE_ok hyL))) hs'
    refine decK_ok (c := c) (no := R.no) (P := GoodR P W0 X N c fr hp nx a o) trivial ty c' _ _ hs2 fun q' y' hdec => ?_
    refine updS_ok (no := R.no) (PP := GoodR P W0 X N c fr hp nx a o) trivial τ oo _ ty _ _ fun x' hu => ?_
    intro _
    have hlen := lenIs_ok l' i.sz hl' hs'
    have hmy : (yy + 1) * tsz ty ≤ L.length * tsz ty := Nat.mul_le_mul_right _ hyL
    have hmc : L.length * tsz ty ≤ cap2 * tsz ty := Nat.mul_le_mul_right _ e4
    rw [Nat.add_mul] at hmy
    have hcurl : cur2.toList.length = cap2 * tsz ty := by rw [Array.length_toList]; exact e6
    have hchl : ((cur2.toList.drop (yy * tsz ty)).take (tsz ty)).length = tsz ty := by rw [List.length_take, List.length_drop, hcurl]; omega
    rw [hchl] at hle
    have hstore := run_store (P := P) hi (w := c.w) (b := g) (q := yy * tsz ty + z) (v := a.eval y) e3 hlen (by rw [e6]; omega) hone
    generalize hcur' : (cur2.toList.take (yy * tsz ty + z) ++ (a.eval y).cells.toList ++ cur2.toList.drop (yy * tsz ty + z + (a.eval y).cells.toList.length)).toArray = cur' at hstore
    have hLlen : cur'.size = cur2.size := by rw [← hcur', ← Array.length_toList]; simp only [List.length_append, List.length_take, List.length_drop, hcurl]; rw [e6]; omega
    obtain ⟨hG, _⟩ := h.setW (w' := c.w.setRow g cur') (ob := .mt (qq && q') H τ m ee (l.set xx x')) hjn hkg (size_setRow _ _ _) (fun k hkb => setRow_other _ _ _ _ hkb) rfl rfl rfl (fun st => by
      have kp1 := st.keeps (q := qq) (q' := qq && q') (by simp; exact fun h _ => h)
      have kp2 := st.keeps (q := q') (q' := qq && q') (by simp)
      have hin' : memIn (c.w.setRow g cur') c.O (qb (qq && q') c.b0) e0 ty (L.set yy y') hd := by
        refine ⟨h0, .inr ⟨g, cap2, cur', by rw [List.length_set, ehd, q2, q3], e2b, e3.set _ hLlen, by rw [List.length_set]; exact e4, e5, by rw [hLlen]; exact e6, fun jj v hjy => ?_⟩⟩
        have hjl : jj < L.length := by have := (List.getElem?_eq_some_iff.1 hjy).1; simpa using this
        have hch := chunk_upd cur2.toList (a.eval y).cells.toList (tsz ty) yy z L.length (by omega) hyL (by rw [hcurl]; exact hmc) jj
        have hcl' : cur'.toList = cur2.toList.take (yy * tsz ty + z) ++ (a.eval y).cells.toList ++ cur2.toList.drop (yy * tsz ty + z + (a.eval y).cells.toList.length) := by rw [← hcur']
        rw [hcl', hch]
        by_cases hjz : jj = yy
        · subst hjz
          rw [if_pos rfl]
          have hvv : v = y' := by
            rw [List.getElem?_set_self (by omega)] at hjy
            simpa using hjy.symm
          subst hvv
          exact memE_keeps kp2 ty _ _ hdec
        · rw [if_neg hjz]
          rw [List.getElem?_set_ne (fun e => hjz e.symm)] at hjy
          exact memE_keeps kp1 ty _ _ (e7 jj v hjy)
      refine ⟨hmt.1, by rw [List.length_set]; exact hmt.2.1, fun hqt g hg => hmt.2.2.1 (by simp only [Bool.and_eq_true] at hqt; exact hqt.1) g hg, .inr ⟨b, cap, cur, by rw [List.length_set]; exact ev, eh.same (setRow_other _ _ _ _ (fun e => hgb e.symm)), by rw [List.length_set]; exact ec, em, es, fun b' => by rw [List.length_set]; exact ek b', fun x o h1 h2 => by rw [List.length_set] at h1; exact ene x o h1 h2, fun x o x' o' b' h1 h2 => by rw [List.length_set] at h1 h2; exact einj x o x' o' b' h1 h2, fun jj v hjy => ?_⟩⟩
      have hjl : jj < l.length := by have := (List.getElem?_eq_some_iff.1 hjy).1; simpa using this
      by_cases hjz : jj = xx
      · subst hjz
        rw [← hcs]
        have hvv : v = x' := by
          rw [List.getElem?_set_self (by omega)] at hjy
          simpa using hjy.symm
        subst hvv
        have := hu.2 c.w (c.w.setRow g cur') c.O c.O (qb qq c.b0) (qb (qq && q') c.b0) (H jj) (H jj) m 0 cs e0 hoe hM kp1 (fun p' hp' ho g' hg' => setRow_other _ _ _ _ (fun e => by
          rw [Nat.zero_add] at hg'
          have := (einj jj p' jj oo g hxl2 hxl2 ho hos (e ▸ hg') hg).2
          exact hp' this)) (fun p' hp' => rfl) (by rw [Nat.zero_add, hH]; exact hin')
        rw [Nat.zero_add] at this
        have hset : cs.set oo (H jj oo) = cs := by
          refine List.ext_getElem? fun p => ?_
          by_cases hp : p = oo
          · subst hp
            have hlt : p < cs.length := (List.getElem?_eq_some_iff.1 hcsq).1
            rw [List.getElem?_set_self hlt, hcsq]
          · rw [List.getElem?_set_ne (fun e => hp e.symm)]
        rw [hset] at this
        exact this
      · rw [List.getElem?_set_ne (fun e => hjz e.symm)] at hjy
        refine memM_keeps kp1 τ m 0 v _ (fun p hp g' hg' => setRow_other _ _ _ _ (fun e => ?_)) (eall jj v hjy)
        rw [Nat.zero_add] at hg'
        exact hjz (einj jj p xx oo g hjl hxl2 hp hos (e ▸ hg') hg).1)
    have hrun : (execOp a.eval o).run P c.w = .ok .skip (c.w.setRow g cur') := run (by rw [e2]; exact hstore)
    refine ⟨c.to (c.w.setRow g cur'), hrun, ?_, rfl⟩
    rw [setAO_eq]
    rw [h.nl] at hG
    have hll : hp.length = (hp.set j (AO.mt (qq && q') H τ m ee (l.set xx x'))).length := by simp
    rw [hll] at hG
    exact hG
theorem good_store (h : Gam W0 X N c fr hp nx a) (t : TypeId) (x y : Operand) (hop : o.op = .store t x y) (i : TI) (hi : TIok P t i) (hx : sat (ρ x) c [a.eval x]) (hy : sat (ρ y) c [a.eval y]) :
    GoodR P W0 X N c fr hp nx a o (storeR i hp (ρ x) (ρ y)) := by
  have run : ∀ {w w' : World}, (Instr.storeAt t (a.eval x) (a.eval y)).run P w = .ok () w' → (execOp a.eval o).run P w = .ok .skip w' := fun {w w'} hr => by
    unfold execOp; rw [hop]
    simp only [Sem.run_bind, hr, Result.andThen_ok, Sem.run_pure]
  unfold storeR
  generalize ρ x = r at hx
  cases r with
  | ptr j q =>
    cases hl : cellsOf (ρ y) with
    | none => trivial
    | some l' =>
      simp only []
      cases hsz : lenIs l' i.sz with
      | false => trivial
      | true =>
        simp only [cond_true]
        split
        · rename_i l hj
          refine lift_good fun l2 hl2 => ?_
          intro hjl
          obtain ⟨hs', hone⟩ := cellsOf_ok hl hy
          obtain ⟨hjn, b, hk, e⟩ := hx
          have e' : a.eval x = .pointer (some ⟨b, q, none⟩) := by simpa using e
          obtain ⟨b', cs, ty, hk', hkey, hh, hs⟩ := h.o j _ (getAO_at hj (by simp))
          rw [hk] at hk'; injection hk' with hk'; subst hk'
          obtain ⟨hle, hs2⟩ := setc_ok l q l' hl2 hs hs'
          have hlen := lenIs_ok l' i.sz hsz hs'
          obtain ⟨hg, _⟩ := h.setW (w' := c.w.setRow b (cs.toList.take q ++ (a.eval y).cells.toList ++ cs.toList.drop (q + (a.eval y).cells.toList.length)).toArray) (ob := .cells l2) hjn ((hkey b).2 rfl) (size_setRow _ _ _) (fun k hkb => setRow_other _ _ _ _ hkb) rfl rfl rfl
            (fun st => ⟨b, _, ty, hk, hkey, setRow_heap c.w b cs _ ty _ hh, by simpa using sat_step _ st hs2⟩)
          exact ⟨_, run (by rw [e']; exact run_store hi (.of hh) hlen (by simpa using hle) hone), hg, rfl⟩
        · trivial
  | op j k z q =>
    cases hl : cellsOf (ρ y) with
    | none => trivial
    | some l' =>
      simp only []
      cases hsz : (lenIs l' i.sz && !hasN (owsOf l') j) with
      | false => trivial
      | true =>
        simp only [Bool.and_eq_true, Bool.not_eq_true'] at hsz
        simp only [cond_true]
        split
        · rename_i qq τ ee l hj
          cases hk : Nat.beq (tsz τ) k with
          | false => trivial
          | true =>
            have hk' := Nat.eq_of_beq_eq_true hk
            subst hk'
            simp only [cond_true]
            split
            · rename_i c' hc'
              obtain ⟨hs', hone⟩ := cellsOf_ok hl hy
              obtain ⟨hjn, hzl, b, hb, e⟩ := hx
              have e' : a.eval x = .pointer (some ⟨b, z * tsz τ + q, none⟩) := by simpa using e
              have hlen := lenIs_ok l' i.sz hsz.1 hs'
              have hnot := hasN_ok _ _ hsz.2
              obtain ⟨c1, w1, n1, v1, b1, k1, _, g1, s1, ln1, o1, f1⟩ := h.freeze (owsOf l')
              have hj1 : getAO (frz (owsOf l') hp) j = .row qq τ ee l := (o1 j hnot).trans hj
              have hsu : sat (unow hp l') c1 (a.eval y).cells.toList := unow_ok h.ob s1 l' (owsOf l') (fun i hi => hi) f1 hs'
              have hrow : rowAt c1 j qq τ ee l := g1.o j _ (getAO_at hj1 (by simp))
              have hzl1 : z < c1.len j := by rw [← hrow.2.1]; have := (h.o j _ (getAO_at hj (by simp)) : rowAt c j qq τ ee l).2.1; omega
              obtain ⟨cap, cur, ev, ek, eh, ec, em, es, hzl2, cs, hcs, hcl, hr, hE⟩ := row_elem hrow hzl1 (b := b) (by rw [v1]; exact hb)
              obtain ⟨hle, hs2⟩ := setc_ok _ q (unow hp l') hc' (encC_ok τ _ _ hE) hsu
              have hjn1 : j < c1.n := by rw [n1]; exact hjn
              have hm : (z + 1) * tsz τ ≤ l.length * tsz τ := Nat.mul_le_mul_right _ hzl2
              have hm2 : l.length * tsz τ ≤ cap * tsz τ := Nat.mul_le_mul_right _ ec
              have hm3 := hm
              rw [Nat.add_mul] at hm3
              have hfit : z * tsz τ + q + (a.eval y).cells.toList.length ≤ cur.size := by rw [hcl] at hle; omega
              have hstore := run_store (P := P) hi (w := c1.w) (b := b) (q := z * tsz τ + q) eh hlen hfit hone
              refine decK_ok (c := c1) (no := R.no) (P := GoodR P W0 X N c fr hp nx a o) trivial τ c' _ _ hs2 fun q' x' hx' => ?_
              have main : ∃ c', (execOp a.eval o).run P c.w = .ok .skip c'.w ∧ Gam W0 X N c' fr ((frz (owsOf l') hp).set j (.row (qq && q') τ ee (l.set z x'))) (frz (owsOf l') hp).length a ∧ AV.u = .u := by
                have hob : Step c1 (c1.to (c1.w.setRow b (cur.toList.take (z * tsz τ + q) ++ (a.eval y).cells.toList ++ cur.toList.drop (z * tsz τ + q + (a.eval y).cells.toList.length)).toArray)) → osat (.row (qq && q') τ ee (l.set z x')) (c1.to (c1.w.setRow b (cur.toList.take (z * tsz τ + q) ++ (a.eval y).cells.toList ++ cur.toList.drop (z * tsz τ + q + (a.eval y).cells.toList.length)).toArray)) j := by
                  intro st
                  obtain ⟨h0, h1, hq, xs, h2, h3, h4⟩ := hrow
                  have hLlen : ((cur.toList.take (z * tsz τ + q) ++ (a.eval y).cells.toList ++ cur.toList.drop (z * tsz τ + q + (a.eval y).cells.toList.length)).toArray).size = cur.size := by have hf2 := hfit; simp at hf2 ⊢; omega
                  refine ⟨h0, by rw [List.length_set]; exact h1, fun hqt g hg => hq (by revert hqt; cases qq <;> simp) g hg, ((cur.toList.take (z * tsz τ + q) ++ (a.eval y).cells.toList ++ cur.toList.drop (z * tsz τ + q + (a.eval y).cells.toList.length))).take (l.length * tsz τ), ?_, .inr ⟨b, cap, _, by rw [List.length_set]; exact ev, ek, eh.set _ hLlen, by rw [List.length_set]; exact ec, em, by rw [hLlen]; exact es, by rw [List.length_set]⟩, fun p y' hp' => ?_⟩
                  · have hf2 := hfit
                    simp at hf2 ⊢; omega
                  · have hpl : p < l.length := by have := (List.getElem?_eq_some_iff.1 hp').1; simpa using this
                    have hmp : (p + 1) * tsz τ ≤ l.length * tsz τ := Nat.mul_le_mul_right _ hpl
                    rw [Nat.add_mul] at hmp
                    rw [List.drop_take, List.take_take, Nat.min_eq_left (by omega)]
                    rw [chunk_upd _ _ _ _ _ l.length (by rw [hcl] at hle; exact hle) hzl2 (by simp; omega)]
                    by_cases hpz : p = z
                    · subst hpz
                      have hyx : y' = x' := by
                        rw [List.getElem?_set_self (by omega)] at hp'
                        simpa using hp'.symm
                      subst hyx
                      rw [if_pos rfl, ← hcs]
                      exact memE_keeps (st.keeps (q := q') (q' := qq && q') (by simp)) τ _ _ hx'
                    · rw [if_neg hpz]
                      rw [List.getElem?_set_ne (fun e => hpz e.symm)] at hp'
                      have hold := h4 p y' hp'
                      have hxs : (xs.drop (p * tsz τ)).take (tsz τ) = (cur.toList.drop (p * tsz τ)).take (tsz τ) := by
                        rcases h3 with ⟨q1, _⟩ | ⟨g, cap', cur', q1, q2, q3, q4, q5, q6, q7⟩
                        · rw [q1] at hpl; simp at hpl
                        · have q2 := (ek g).1 ((q2 g).2 rfl); subst q2
                          have q3 := eh.inj q3
                          subst q3
                          rw [← q7, List.drop_take, List.take_take, Nat.min_eq_left (by omega)]
                      rw [hxs] at hold
                      exact memE_keeps (st.keeps (q := qq) (q' := qq && q') (by simp; exact fun h _ => h)) τ _ _ hold
                obtain ⟨hg, _⟩ := g1.setW (i := j) (b := b) hjn1 ((ek b).2 rfl) (size_setRow _ _ _) (fun k hkb => setRow_other _ _ _ _ hkb) rfl rfl rfl hob
                exact ⟨_, run (by rw [e', ← w1]; exact hstore), hg, rfl⟩
              unfold putR
              split
              · rename_i hnil
                intro _
                rw [hnil] at main
                obtain ⟨c2, m1, m2, _⟩ := main
                refine ⟨c2, m1, ?_, rfl⟩
                rw [h.nl]
                exact m2
              · intro _
                obtain ⟨c2, m1, m2, _⟩ := main
                refine ⟨c2, m1, ?_, rfl⟩
                rw [setAO_eq]
                rw [show (frz (owsOf l') hp).length = ((frz (owsOf l') hp).set j (.row (qq && q') τ ee (l.set z x'))).length by simp] at m2
                exact m2
            · trivial
        · rename_i qq H τ m ee l hj
          split
          · rename_i j2 k2 n2
            split
            · rename_i e' q' ty e2 L hm hj2
              cases hkk : (Nat.beq (tsz τ) k && Nat.beq e' e2 && Nat.blt 0 (tsz ty)) with
              | false => trivial
              | true =>
                simp only [Bool.and_eq_true] at hkk
                have hk1 := Nat.eq_of_beq_eq_true hkk.1.1
                have hk2 := Nat.eq_of_beq_eq_true hkk.1.2
                have hk3 : 0 < tsz ty := by simpa [Nat.blt_eq] using hkk.2
                subst hk1 hk2
                simp only [cond_true]
                refine updS_ok (no := R.no) (PP := GoodR P W0 X N c fr hp nx a o) trivial τ q _ ty L _ fun y' hu => ?_
                intro _
                obtain ⟨hs', hone⟩ := cellsOf_ok hl hy
                have hs2 := hs'
                obtain ⟨vy, r, ey, hsy, hr⟩ := hs2
                have hr' : r = [] := hr
                subst hr'
                obtain ⟨hj2n, _, evj, _⟩ := hsy
                have hvy : vy = c.val j2 := by simpa using evj
                have hsz1 : i.sz = 1 := by
                  have := lenIs_ok _ i.sz hsz.1 hs'
                  rw [ey] at this; simpa using this.symm
                have hne : j2 ≠ j := fun e => by
                  have := hasN_ok _ _ hsz.2
                  exact this (by rw [e]; simp [owsOf])
                have hyv : (a.eval y).cells.toList = [c.val j2] := by rw [ey, hvy]
                exact store_own h hi run hj hx hm hj2 hne hj2n hk3 hsz1 hyv hu
            · trivial
          · trivial
        · trivial
  | ip j xx oo k yy z hd =>
    cases hl : cellsOf (ρ y) with
    | none => trivial
    | some l' =>
      simp only []
      cases hsz : lenIs l' i.sz with
      | false => trivial
      | true =>
        simp only [cond_true]
        split
        · rename_i qq H τ m ee l hows hj
          refine innerK_ok (w := c.w) (O := c.O) (b := qb qq c.b0) (no := R.no) (PP := GoodR P W0 X N c fr hp nx a o) trivial τ oo _ _ fun ty L hin => ?_
          cases hk : (Nat.beq (tsz ty) k && (ownM m oo).isSome) with
          | false => trivial
          | true =>
            simp only [Bool.and_eq_true] at hk
            have hk' := Nat.eq_of_beq_eq_true hk.1
            subst hk'
            simp only [cond_true]
            split
            · rename_i c' hc'
              obtain ⟨hs', hone⟩ := cellsOf_ok hl hy
              exact store_in h hi run hj hx hin hk.2 hsz hs' hone hc'
            · trivial
        · trivial
  | _ => cases cellsOf (ρ y) <;> trivial
end
end Go.Proofs.Ytdhpjpidcbplbaa.Eng

/- ENGINE 2, 5: the other operations. -/
namespace Go.Proofs.Ytdhpjpidcbplbaa.Eng
open Go Go.RowKit
section
variable {P : Program} {W0 : World} {X : Bd} {N : Nat} {c : Cx} {fr : Fr} {hp : List AO} {nx : Nat} {a : Act} {o : Oper} {ρ : Operand → AV}
theorem run_sizeOf {t : TypeId} {i : TI} (hi : TIok P t i) (w : World) : (sizeOf t).run P w = .ok i.sz w := by
  have := hi.sz
  cases hq : P.info? t with
  | none => simp [hq] at this
  | some ti => simp [hq] at this; simp [sizeOf, typeInfo, hq, this, Sem.run_bind]
theorem field_at {t : TypeId} {i : TI} (hi : TIok P t i) (hk : i.kd = 1) {f off : Nat} {tf : TypeId} (hf : i.fl[f]? = some (off, tf)) :
    ∃ (fs : Array Field) (fd : Field), P.underlying t = some (.struct fs) ∧ fs[f]? = some fd ∧ fd.offset = off ∧ fd.type = tf := by
  obtain ⟨fs, hu, hfl, _⟩ := hi.st hk
  rw [← hfl] at hf
  simp only [List.getElem?_map, Option.map_eq_some_iff] at hf
  obtain ⟨fd, hfd, he⟩ := hf
  simp only [Prod.mk.injEq] at he
  exact ⟨fs, fd, hu, by simpa using hfd, he.1, he.2⟩
theorem good_fieldAddr (t : TypeId) (x : Operand) (f : Nat) (hop : o.op = .fieldAddr t x f) (i : TI) (hi : TIok P t i) (hk : i.kd = 1) {off : Nat} {tf : TypeId} (hf : i.fl[f]? = some (off, tf))
    (j : TI) (hj : TIok P tf j) (hz : 0 < j.sz) (hx : sat (ρ x) c [a.eval x]) : GoodR P W0 X N c fr hp nx a o (addR off (ρ x)) := by
  obtain ⟨fs, fd, hu, hfd, ho, ht⟩ := field_at hi hk hf
  have run : ∀ b q, a.eval x = .pointer (some ⟨b, q, none⟩) → (execOp a.eval o).run P c.w = .ok (.value (.pointer (some ⟨b, q + off, none⟩))) c.w := by
    intro b q he
    unfold execOp; rw [hop]
    have hs : (sizeOf fd.type).run P c.w = .ok j.sz c.w := by rw [ht]; exact run_sizeOf hj c.w
    have hne : ¬ j.sz = 0 := by omega
    simp only [Sem.run_bind, he, Instr.fieldAt, run_underlying hu, Result.andThen_ok, hfd, Instr.sureAddr, Sem.run_pure, fieldPlace, hs, if_neg hne, Addr.add_mid, ho]
  generalize ρ x = r at hx
  cases r with
  | ptr k q =>
    obtain ⟨hk, b, hb, e⟩ := hx
    exact ⟨_, run b q (by simpa using e), hk, b, hb, rfl⟩
  | rp k e q =>
    obtain ⟨b, q0, hv, hO, hb, hc⟩ := hx
    refine ⟨_, run b (q0 + q) (by simpa using hv), b, q0, ?_, hO, hb, hc⟩
    rw [Nat.add_assoc]
  | op j k y q =>
    obtain ⟨hj, hy, b, hb, e⟩ := hx
    refine ⟨_, run b (y * k + q) (by simpa using e), hj, hy, b, hb, ?_⟩
    rw [Nat.add_assoc]
  | ip j xx oo k y z hd =>
    obtain ⟨hown, g, n, mm, ehd, hyn, e⟩ := hx
    refine ⟨_, run g (y * k + z) (by simpa using e), hown, g, n, mm, ehd, hyn, ?_⟩
    rw [Nat.add_assoc]
  | mq j tk xk k y z hd =>
    obtain ⟨hown, g, n, mm, ehd, hyn, e⟩ := hx
    refine ⟨_, run g (y * k + z) (by simpa using e), hown, g, n, mm, ehd, hyn, ?_⟩
    rw [Nat.add_assoc]
  | _ => trivial
theorem good_part (l : AV) (cs : Array Value) (hs : sat l c cs.toList) (t : TypeId) (i : TI) (hi : TIok P t i) (off : Nat) :
    ∀ v, (partR i l off = .ok v) → ∃ y, (Go.part t cs off).run P c.w = .ok y c.w ∧ sat v c [y] := by
  intro v hv
  have hu := hi.ag
  cases hq : P.underlying t with
  | none => simp [hq] at hu
  | some d =>
    have hd : d.isRow = i.ag := by simpa [hq] using hu
    have hagg : (isAgg t).run P c.w = .ok i.ag c.w := by
      unfold isAgg
      rw [Sem.run_bind, run_underlying hq c.w]
      cases d <;> simp_all
    unfold partR at hv
    cases hag : i.ag with
    | true =>
      rw [hag] at hagg
      simp only [hag, cond_true] at hv
      cases hp : Eng.part l off i.sz with
      | none => simp [hp, lift] at hv
      | some p =>
        simp [hp, lift] at hv
        subst hv
        obtain ⟨hle, hsp⟩ := part_ok l off i.sz hp hs
        refine ⟨.agg (cs.extract off (off + i.sz)), ?_, ⟨_, rfl, ?_⟩⟩
        · simp [Go.part, Sem.run_bind, hagg, run_sizeOf hi]
        · simpa [Array.toList_extract, List.extract, Nat.add_sub_cancel_left] using hsp
    | false =>
      rw [hag] at hagg
      simp only [hag, cond_false] at hv
      cases hp : (Eng.part l off 1).bind (nth · 0) with
      | none => simp [hp, lift] at hv
      | some p =>
        simp [hp, lift] at hv
        subst hv
        simp only [Option.bind_eq_some_iff] at hp
        obtain ⟨q, hq1, hq2⟩ := hp
        obtain ⟨hle, hsp⟩ := part_ok l off 1 hq1 hs
        obtain ⟨y, hy, hsy⟩ := nth_ok q 0 hq2 hsp
        refine ⟨y, ?_, hsy⟩
        have : cs[off]? = some y := by
          rw [List.getElem?_take] at hy
          simpa [List.getElem?_drop] using hy
        simp [Go.part, Sem.run_bind, hagg, this]
theorem good_field (t : TypeId) (x : Operand) (f : Nat) (hop : o.op = .field t x f) (i : TI) (hi : TIok P t i) (hk : i.kd = 1) {off : Nat} {tf : TypeId} (hf : i.fl[f]? = some (off, tf))
    (j : TI) (hj : TIok P tf j) {l : AV} (hx : sat (.agg l) c [a.eval x]) : GoodR P W0 X N c fr hp nx a o (partR j l off) := by
  obtain ⟨fs, fd, hu, hfd, ho, ht⟩ := field_at hi hk hf
  obtain ⟨cs, e, hs⟩ := hx
  have e' : a.eval x = .agg cs := by simpa using e
  rcases partR_ok (i := j) (l := l) (off := off) with ⟨v, hv⟩ | hv
  · rw [hv]
    obtain ⟨y, hr, hy⟩ := good_part l cs hs tf j hj off v hv
    refine ⟨y, ?_, hy⟩
    unfold execOp; rw [hop]
    simp only [Sem.run_bind, e', Instr.field, run_underlying hu, Result.andThen_ok, hfd, asAgg, Sem.run_pure, ho, ht, hr]
  · rw [hv]; trivial
theorem rl_elem {b0 : Nat} {q : Bool} {τ : Ty} {l : List (El τ)} {A : Option Addr} (hq : qb q c.b0 = b0) (h : memL c.w c.O b0 (tsz τ) (memE c.w c.O b0 τ) A l) {z : Int} (h0 : 0 ≤ z) (h1 : z < l.length) :
    ∃ b p, A = some ⟨b, p, none⟩ ∧ sat (.rp (tsz τ) (fun y => nthD (encC q τ (getE τ l z.toNat)) y) 0) c [.pointer (some ⟨b, p + z.toNat * tsz τ, none⟩)] := by
  obtain ⟨ad, rfl, hsp, hO, hlt, hb0, cs, hc, hr, hE⟩ := h z.toNat _ (getE_ok (by omega))
  obtain ⟨b, p, sp⟩ := ad
  simp only at hsp hO hlt hr
  subst hsp
  subst hq
  refine ⟨b, p, rfl, b, p + z.toNat * tsz τ, rfl, hO, hlt, fun j hj => ?_⟩
  have hget : cs[j]? = some (cs[j]'(by omega)) := List.getElem?_eq_getElem (by omega)
  refine ⟨_, hr j _ hget, nth_len (c := c.bare) _ j (encC_ok τ _ _ hE) ⟨_, encC_len q τ _⟩ hget⟩
theorem good_indexAddr (h : Gam W0 X N c fr hp nx a) (t : TypeId) (x y : Operand) (hop : o.op = .indexAddr t x y) (i : TI) (hi : TIok P t i) (ie : TI) (hie : TIok P i.el ie) {k : IntKind} {z : Int} (hx : sat (ρ x) c [a.eval x]) (hy : a.eval y = .int k z) :
    GoodR P W0 X N c fr hp nx a o (indexAddrR i.kd i.ar ie.sz z (ρ x)) := by
  have runS : ∀ (b q m cap : Nat), Nat.beq i.kd 3 = true → a.eval x = .slice (some ⟨b, q, none⟩) m cap → 0 ≤ z → z < m → (execOp a.eval o).run P c.w = .ok (.value (.pointer (some ⟨b, q + z.toNat * ie.sz, none⟩))) c.w := by
    intro b q m cap hk e' h0 h1
    have hu := hi.sl (Nat.eq_of_beq_eq_true hk)
    unfold execOp; rw [hop]
    simp only [Sem.run_bind, e', hy, Instr.indexAt, asIntOf, run_underlying hu, Result.andThen_ok, Instr.sureAddr, Sem.run_pure]
    simp only [h0, h1, and_self, if_true, Sem.run_bind, run_sizeOf hie, Result.andThen_ok, Sem.run_pure, Addr.add_mid]
  generalize ρ x = r at hx
  cases r with
  | ptr j q =>
    simp only [indexAddrR]
    cases hkd : Nat.beq i.kd 2 with
    | false => trivial
    | true =>
      simp only [cond_true]
      rintro ⟨h0, h1⟩
      obtain ⟨hj, b, hb, e⟩ := hx
      have e' : a.eval x = .pointer (some ⟨b, q, none⟩) := by simpa using e
      have hu := hi.ar (Nat.eq_of_beq_eq_true hkd)
      refine ⟨.pointer (some ⟨b, q + z.toNat * ie.sz, none⟩), ?_, hj, b, hb, rfl⟩
      unfold execOp; rw [hop]
      simp only [Sem.run_bind, e', hy, Instr.indexAt, asIntOf, run_underlying hu, Result.andThen_ok, Instr.sureAddr, Sem.run_pure]
      simp only [h0, h1, and_self, if_true, Sem.run_bind, run_sizeOf hie, Result.andThen_ok, Sem.run_pure, Addr.add_mid]
  | sc j q m cap τ =>
    simp only [indexAddrR]
    cases hkd : Nat.beq i.kd 3 with
    | false => trivial
    | true =>
      simp only [cond_true]
      rintro ⟨h0, h1⟩
      obtain ⟨hj, b, hb, e⟩ := hx
      exact ⟨_, runS b q m cap hkd (by simpa using e) h0 h1, hj, b, hb, rfl⟩
  | rl q τ l =>
    simp only [indexAddrR]
    cases hkd : (Nat.beq i.kd 3 && Nat.beq (tsz τ) ie.sz) with
    | false => trivial
    | true =>
      simp only [Bool.and_eq_true] at hkd
      simp only [cond_true]
      rintro ⟨h0, h1⟩
      obtain ⟨A, cap, e, hm, hL⟩ := hx
      obtain ⟨b, p, rfl, hs⟩ := rl_elem rfl hL h0 h1
      have hk' := Nat.eq_of_beq_eq_true hkd.2
      rw [← hk']
      exact ⟨_, by have := runS b p _ cap hkd.1 (by simpa using e) h0 h1; rw [← hk'] at this; exact this, hs⟩
  | rc q τ l =>
    simp only [indexAddrR]
    cases hkd : (Nat.beq i.kd 3 && Nat.beq (tsz τ) ie.sz) with
    | false => trivial
    | true =>
      simp only [Bool.and_eq_true] at hkd
      simp only [cond_true]
      rintro ⟨h0, h1⟩
      obtain ⟨A, e, hL⟩ := hx
      obtain ⟨b, p, rfl, hs⟩ := rl_elem rfl hL h0 h1
      have hk' := Nat.eq_of_beq_eq_true hkd.2
      rw [← hk']
      exact ⟨_, by have := runS b p _ _ hkd.1 (by simpa using e) h0 h1; rw [← hk'] at this; exact this, hs⟩
  | ow j k' m =>
    simp only [indexAddrR]
    cases hkd : (Nat.beq i.kd 3 && Nat.beq k' ie.sz) with
    | false => trivial
    | true =>
      simp only [Bool.and_eq_true] at hkd
      simp only [cond_true]
      rintro ⟨h0, h1⟩
      obtain ⟨hj, hn, e, A, cap, hv, hm⟩ := hx
      have e' : a.eval x = .slice A m cap := by rw [← hv]; simpa using e
      obtain ⟨b, rfl⟩ := c.at0 j _ _ _ hv (by omega)
      exact ⟨_, runS b 0 m cap hkd.1 e' h0 h1, hj, by omega, b, by rw [hv]; rfl, by simp⟩
  | ws j k' lo m =>
    simp only [indexAddrR]
    cases hkd : (Nat.beq i.kd 3 && Nat.beq k' ie.sz) with
    | false => trivial
    | true =>
      simp only [Bool.and_eq_true] at hkd
      simp only [cond_true]
      rintro ⟨h0, h1⟩
      have hk' := Nat.eq_of_beq_eq_true hkd.2
      subst hk'
      obtain ⟨hj, hn, A, cap, A', hv, hm, hA', e⟩ := hx
      obtain ⟨b, rfl⟩ := c.at0 j _ _ _ hv (by omega)
      have hne : A' = some ⟨b, lo * ie.sz, none⟩ := by rw [hA' (by omega)]; simp [Addr.add_mid]
      have e' : a.eval x = .slice (some ⟨b, lo * ie.sz, none⟩) m (cap - lo) := by rw [← hne]; simpa using e
      exact ⟨_, runS b _ m _ hkd.1 e' h0 h1, hj, by omega, b, by rw [hv]; rfl, by rw [Nat.add_mul]; simp⟩
  | iw j xx oo k' m hd =>
    simp only [indexAddrR]
    cases hkd : (Nat.beq i.kd 3 && Nat.beq k' ie.sz) with
    | false => trivial
    | true =>
      simp only [Bool.and_eq_true] at hkd
      simp only [cond_true]
      rintro ⟨h0, h1⟩
      have hk' := Nat.eq_of_beq_eq_true hkd.2
      subst hk'
      obtain ⟨hown, e, A, cap, hv, hm, hA⟩ := hx
      obtain ⟨g, rfl⟩ := hA (by omega)
      have e' : a.eval x = .slice (some ⟨g, 0, none⟩) m cap := by rw [← hv]; simpa using e
      exact ⟨_, runS g 0 m cap hkd.1 e' h0 h1, hown, g, m, cap, hv, by omega, by simp⟩
  | mw j tk xk m hd =>
    simp only [indexAddrR]
    cases hkd : Nat.beq i.kd 3 with
    | false => trivial
    | true =>
      simp only [cond_true]
      rintro ⟨h0, h1⟩
      obtain ⟨hown, e, A, cap, hv, hm, hA⟩ := hx
      obtain ⟨g, rfl⟩ := hA (by omega)
      have e' : a.eval x = .slice (some ⟨g, 0, none⟩) m cap := by rw [← hv]; simpa using e
      exact ⟨_, runS g 0 m cap hkd e' h0 h1, hown, g, m, cap, hv, by omega, by simp⟩
  | _ => trivial
theorem good_index (t : TypeId) (x y : Operand) (hop : o.op = .index t x y) (i : TI) (hi : TIok P t i) (hk : i.kd = 2) (ie : TI) (hie : TIok P i.el ie) {k : IntKind} {z : Int} {l : AV} (hx : sat (.agg l) c [a.eval x]) (hy : a.eval y = .int k z) :
    GoodR P W0 X N c fr hp nx a o (match partR ie l (z.toNat * ie.sz) with | .ok v => .ob (0 ≤ z ∧ z < i.ar) v | _ => .no) := by
  rcases partR_ok (i := ie) (l := l) (off := z.toNat * ie.sz) with ⟨v, hv⟩ | hv
  · rw [hv]
    rintro ⟨h0, h1⟩
    obtain ⟨cs, e, hs⟩ := hx
    have e' : a.eval x = .agg cs := by simpa using e
    obtain ⟨u, hr, hu⟩ := good_part l cs hs i.el ie hie _ v hv
    refine ⟨u, ?_, hu⟩
    unfold execOp; rw [hop]
    simp only [Sem.run_bind, e', hy, Instr.index, asIntOf, run_underlying (hi.ar hk), Result.andThen_ok, Sem.run_pure]
    simp only [h0, h1, and_self, if_true, Sem.run_bind, run_sizeOf hie, Result.andThen_ok, hr]
  · rw [hv]; trivial
theorem good_same {k l : IntKind} {v : Value} (h : k = l → OKv P c a o (.v v)) : GoodR P W0 X N c fr hp nx a o (same k l v) := by
  unfold same
  split
  · exact h ‹_›
  · trivial
theorem good_bin (op : BinOp) (t t' : TypeId) (x y : Operand) (hop : o.op = .binOp op t x y t') {vx vy : Value} (hx : a.eval x = vx) (hy : a.eval y = vy) : GoodR P W0 X N c fr hp nx a o (binV op vx vy) := by
  have fin : ∀ v : Value, (do eqGuard op t x y vx vy; binOp op t vx vy : Sem Value).run P c.w = .ok v c.w → OKv P c a o (.v v) := fun v hr => by
    refine ⟨v, ?_, rfl⟩
    unfold execOp; rw [hop]
    simp only [hx, hy]
    rw [Sem.run_bind, hr]; rfl
  unfold binV
  split
  all_goals first
    | trivial
    | (refine good_same fun e => ?_; subst e; refine fin _ ?_; simp [eqGuard, binOp, Op.intArith, Op.intBits, Op.intCmp]; done)
    | (split
       · rename_i e; subst e; intro hb; refine fin _ ?_; simp [eqGuard, binOp, Op.intDiv, hb]; done
       · trivial)
    | (intro hb; refine fin _ ?_; simp [eqGuard, binOp, Op.shift, show ¬ _ < (0 : Int) from Int.not_lt.2 hb]; done)
theorem good_un (op : UnOp) (t : TypeId) (x : Operand) (hop : o.op = .unOp op t x) {vx : Value} (hx : a.eval x = vx) : GoodR P W0 X N c fr hp nx a o (unV op vx) := by
  unfold unV
  split
  all_goals first
    | trivial
    | (refine ⟨_, ?_, rfl⟩; unfold execOp; rw [hop]; simp only [hx]; rfl)
theorem good_extract (x : Operand) (i : Nat) (hop : o.op = .extract x i) {l : AV} (hx : sat (.tup l) c [a.eval x]) : GoodR P W0 X N c fr hp nx a o (lift (nth l i) .ok) := by
  refine lift_good fun v hv => ?_
  obtain ⟨cs, e, hs⟩ := hx
  have e' : a.eval x = .tuple cs := by simpa using e
  obtain ⟨y, hy, hsy⟩ := nth_ok l i hv hs
  refine ⟨y, ?_, hsy⟩
  have hy' : cs[i]? = some y := by simpa using hy
  unfold execOp; rw [hop]
  simp [e', Instr.extract, hy', Sem.run_bind]
theorem good_nilCheck (x : Operand) (hop : o.op = .nilCheck x) (hx : sat (ρ x) c [a.eval x]) :
    GoodR P W0 X N c fr hp nx a o (match ρ x with | .ptr i o => .ok (.ptr i o) | .rp k e o => .ok (.rp k e o) | .op j k x o => .ok (.op j k x o) | .fn f c => .ok (.fn f c) | _ => .no) := by
  generalize ρ x = r at hx
  cases r with
  | ptr i q =>
    have hx' := hx
    obtain ⟨_, b, _, e⟩ := hx
    have e' : a.eval x = .pointer (some ⟨b, q, none⟩) := by simpa using e
    refine ⟨_, ?_, e' ▸ hx'⟩
    unfold execOp; rw [hop]; simp [e']
  | rp k e q =>
    have hx' := hx
    obtain ⟨b, q0, e, _⟩ := hx
    have e' : a.eval x = .pointer (some ⟨b, q0 + q, none⟩) := by simpa using e
    refine ⟨_, ?_, e' ▸ hx'⟩
    unfold execOp; rw [hop]; simp [e']
  | op j k y q =>
    have hx' := hx
    obtain ⟨_, _, b, _, e⟩ := hx
    have e' : a.eval x = .pointer (some ⟨b, y * k + q, none⟩) := by simpa using e
    refine ⟨_, ?_, e' ▸ hx'⟩
    unfold execOp; rw [hop]; simp [e']
  | fn f l =>
    have hx' := hx
    obtain ⟨cs, e, _⟩ := hx
    have e' : a.eval x = .func (.func f) #[] cs := by simpa using e
    refine ⟨_, ?_, e' ▸ hx'⟩
    unfold execOp; rw [hop]; simp [e']
  | _ => trivial
theorem foldl_set (off : Nat) : ∀ (xs : List Value) (j : Nat) (cs : Array Value), off + j + xs.length ≤ cs.size →
    ((xs.zipIdx j).foldl (fun (cs : Array Value) (p : Value × Nat) => cs.setIfInBounds (off + p.2) p.1) cs).toList = cs.toList.take (off + j) ++ xs ++ cs.toList.drop (off + j + xs.length)
  | [], j, cs, _ => by simp
  | x :: r, j, cs, h => by
    simp only [List.length_cons] at h
    have ih := foldl_set off r (j + 1) (cs.setIfInBounds (off + j) x) (by simp; omega)
    simp only [List.zipIdx_cons, List.foldl_cons]
    rw [ih]
    have hl : off + j < cs.toList.length := by simp; omega
    simp only [Array.toList_setIfInBounds]
    rw [show off + (j + 1) = (off + j) + 1 by omega, List.take_set, List.drop_set, if_pos (by omega)]
    rw [List.take_succ_eq_append_getElem hl, List.set_append_right _ _ (by simp; omega)]
    simp [show min (off + j) cs.size = off + j by have : off + j ≤ cs.size := by omega
                                                  omega]
    rw [show off + j + 1 + r.length = off + j + (r.length + 1) by omega]
theorem fillA_ok {c : Cx} (pl : Nat → Option (Nat × Nat)) : ∀ (parts : List (Nat × AV)) (vals : List (Nat × Value)) {l l' : AV} {cs : Array Value}, fillA pl l parts = some l' → sat l c cs.toList →
    parts.length = vals.length → (∀ (i : Nat) (p : Nat × AV) (v : Nat × Value), parts[i]? = some p → vals[i]? = some v → p.1 = v.1 ∧ sat p.2 c [v.2]) → ∃ cs', Instr.fill pl cs vals = some cs' ∧ sat l' c cs'.toList
  | [], vals, l, l', cs, h, hs, hl, _ => by
    have : vals = [] := List.eq_nil_of_length_eq_zero (by simpa using hl.symm)
    subst this
    simp only [fillA, Option.some.injEq] at h
    subst h
    exact ⟨cs, rfl, hs⟩
  | (i, x) :: r, vals, l, l', cs, h, hs, hl, hp => by
    match vals, hl with
    | (j, v) :: vr, hl =>
      obtain ⟨hij, hx⟩ := hp 0 (i, x) (j, v) rfl rfl
      simp only at hij hx
      subst hij
      simp only [fillA] at h
      cases hpl : pl i with
      | none => simp [hpl] at h
      | some q =>
        obtain ⟨off, sz⟩ := q
        cases hc : cellsOf x with
        | none => simp [hpl, hc] at h
        | some cx =>
          simp only [hpl, hc] at h
          cases hle : lenIs cx sz with
          | false => simp [hle] at h
          | true =>
            simp only [hle, cond_true] at h
            cases hst : setc l off cx with
            | none => simp [hst] at h
            | some l1 =>
              simp only [hst] at h
              obtain ⟨hsx, _⟩ := cellsOf_ok hc hx
              have hlen := lenIs_ok cx sz hle hsx
              obtain ⟨hb, hs1⟩ := setc_ok l off cx hst hs hsx
              have hsz : v.cells.size = sz := by simpa using hlen
              have hb' : off + v.cells.size ≤ cs.size := by simpa using hb
              have hf := foldl_set off v.cells.toList 0 cs (by simpa using hb')
              have ih := fillA_ok (c := c) pl r vr (l := l1) (cs := v.cells.zipIdx.foldl (fun (cs : Array Value) (p : Value × Nat) => cs.setIfInBounds (off + p.2) p.1) cs) h
                (by
                  rw [← Array.foldl_toList, Array.toList_zipIdx]
                  rw [hf]
                  simpa using hs1)
                (by simpa using hl) (fun k p u hk hu => hp (k + 1) p u (by simpa using hk) (by simpa using hu))
              obtain ⟨cs', hfill, hs'⟩ := ih
              refine ⟨cs', ?_, hs'⟩
              simp only [Instr.fill, hpl]
              rw [if_neg (by simp [hsz]; omega)]
              exact hfill
theorem good_build (t : TypeId) (parts : Array (Nat × Operand)) (hop : o.op = .build t parts) (i : TI) (hi : TIok P t i) (z : Value) (hz : i.ze = some z) (pl : Nat → Option (Nat × Nat))
    (hpl : ∀ cs, Instr.fill pl z.cells (parts.map fun (i, x) => (i, a.eval x)).toList = some cs → P.built t (parts.map fun (i, x) => (i, a.eval x)).toList = some cs)
    (hx : ∀ p ∈ parts.toList, sat (ρ p.2) c [a.eval p.2]) : GoodR P W0 X N c fr hp nx a o (lift (fillA pl (ofValues z.cells.toList) (parts.toList.map fun p => (p.1, ρ p.2))) fun l => .ok (.agg l)) := by
  refine lift_good fun l hl => ?_
  obtain ⟨cs, hf, hs⟩ := fillA_ok (c := c) pl _ (parts.map fun (i, x) => (i, a.eval x)).toList hl (cs := z.cells) (ofValues_ok c _) (by simp) (fun k p v hk hv => by
    simp only [List.getElem?_map, Option.map_eq_some_iff, Array.toList_map] at hk hv
    obtain ⟨q, hq, rfl⟩ := hk
    obtain ⟨q', hq', rfl⟩ := hv
    rw [hq] at hq'; injection hq' with hq'; subst hq'
    exact ⟨rfl, hx q (List.mem_of_getElem? hq)⟩)
  refine ⟨.agg cs, ?_, cs, rfl, hs⟩
  unfold execOp; rw [hop]
  simp only [Sem.run_bind, run_build c.w t _ cs (hpl cs hf), Result.andThen_ok]
  rfl
theorem built_struct {t : TypeId} {i : TI} (hi : TIok P t i) (hk : i.kd = 1) {z : Value} (hz : i.ze = some z) {vals : List (Nat × Value)} {cs : Array Value} (h : Instr.fill (i.pl[·]?) z.cells vals = some cs) : P.built t vals = some cs := by
  obtain ⟨fs, hu, _, hpl⟩ := hi.st hk
  have hze := hi.ze z hz
  cases hq : P.info? t with
  | none => simp [hq] at hze
  | some ti =>
    simp [hq] at hze
    simp only [Program.built, hq, hu, hze, hpl]
    simpa using h
theorem built_array {t : TypeId} {i ie : TI} (hi : TIok P t i) (hk : i.kd = 2) (hie : TIok P i.el ie) {z : Value} (hz : i.ze = some z) {vals : List (Nat × Value)} {cs : Array Value} (h : Instr.fill (fun j => some (j * ie.sz, ie.sz)) z.cells vals = some cs) : P.built t vals = some cs := by
  have hu := hi.ar hk
  have hze := hi.ze z hz
  have hsz := hie.sz
  cases hq : P.info? t with
  | none => simp [hq] at hze
  | some ti =>
    cases hq2 : P.info? i.el with
    | none => simp [hq2] at hsz
    | some tie =>
      simp [hq] at hze
      simp [hq2] at hsz
      simp only [Program.built, hq, hu, hze, hq2, hsz]
      exact h
end
end Go.Proofs.Ytdhpjpidcbplbaa.Eng

/- ENGINE 2, 5B: equality, slices, copies, lengths, conversions, calls. -/
namespace Go.Proofs.Ytdhpjpidcbplbaa.Eng
open Go Go.RowKit
section
variable {P : Program} {E : Env} {W0 : World} {X : Bd} {N : Nat} {c : Cx} {fr : Fr} {hp : List AO} {nx : Nat} {a : Act} {o : Oper} {ρ : Operand → AV}
theorem leafQ_ok {t : Nat} {x y : AV} {b : Bool} (h : leafQ t x y = some b) {vx vy : Value} (hx : sat x c [vx]) (hy : sat y c [vy]) : leafV t vx vy = some b := by
  unfold leafQ at h
  split at h
  · simp only [sat, List.cons.injEq, and_true] at hx hy
    subst hx hy
    exact h
  · simp only [sat, List.cons.injEq, and_true] at hx hy
    subst hx hy
    exact h
  · simp only [sat, List.cons.injEq, and_true] at hx hy
    subst hx hy
    exact h
  · cases h
theorem eqQ_ok : ∀ (ts : List Nat) {x y : AV} {b : Bool} {xs ys : List Value}, eqQ ts x y = some b → sat x c xs → sat y c ys → eqV ts xs ys = some b
  | [], x, y, b, xs, ys, h, hx, hy => by
    unfold eqQ at h
    split at h
    · have e1 : xs = [] := hx
      have e2 : ys = [] := hy
      subst e1 e2
      exact h
    · rename_i h1; cases h1
    · cases h
  | t :: ts, x, y, b, xs, ys, h, hx, hy => by
    unfold eqQ at h
    split at h
    · rename_i h1; cases h1
    · rename_i t' ts' a x' b' y' h1
      injection h1 with h1 h2
      subst h1 h2
      split at h
      · rename_i p q hp hq
        obtain ⟨v, r, rfl, hv, hr⟩ := hx
        obtain ⟨v', r', rfl, hv', hr'⟩ := hy
        simp only [eqV, leafQ_ok hp hv hv', eqQ_ok ts hq hr hr']
        exact h
      · cases h
    · cases h
theorem okv_bin {op : BinOp} {t t' : TypeId} {x y : Operand} (hop : o.op = .binOp op t x y t') {vx vy : Value} (hx : a.eval x = vx) (hy : a.eval y = vy) {v : Value} (hr : (do eqGuard op t x y vx vy; binOp op t vx vy : Sem Value).run P c.w = .ok v c.w) : OKv P c a o (.v v) := by
  refine ⟨v, ?_, rfl⟩
  unfold execOp; rw [hop]
  simp only [hx, hy]
  rw [Sem.run_bind, hr]; rfl
theorem good_eqR {op : BinOp} {b : Option Bool} (h : ∀ q, b = some q → op = .eql → OKv P c a o (.v (.bool q))) (h' : ∀ q, b = some q → op = .neq → OKv P c a o (.v (.bool (!q)))) : GoodR P W0 X N c fr hp nx a o (eqR op b) := by
  unfold eqR
  split
  · exact h _ rfl rfl
  · exact h' _ rfl rfl
  · trivial
theorem flat_bool {d : Nat} {t : TypeId} (h : flatD P d t = some [1]) (hr : (P.underlying t).map TypeDesc.isRow = some false) : P.underlying t = some .bool := by
  cases d with
  | zero => cases h
  | succ d =>
    simp only [flatD] at h
    split at h
    · cases h
    · assumption
    · cases h
    · rename_i hu _; rw [hu] at hr; cases hr
    · rename_i hu _; rw [hu] at hr; cases hr
    · cases h
theorem flat_str {d : Nat} {t : TypeId} (h : flatD P d t = some [2]) (hr : (P.underlying t).map TypeDesc.isRow = some false) : P.underlying t = some .string := by
  cases d with
  | zero => cases h
  | succ d =>
    simp only [flatD] at h
    split at h
    · cases h
    · cases h
    · assumption
    · rename_i hu _; rw [hu] at hr; cases hr
    · rename_i hu _; rw [hu] at hr; cases hr
    · cases h
theorem nilQ_ok {kd : Nat} {x : AV} {b : Bool} {vx : Value} (h : nilQ kd x = some b) (hx : sat x c [vx]) :
    (kd = 6 ∧ ((b = true ∧ vx = .pointer none) ∨ (b = false ∧ ∃ A, vx = .pointer (some A)))) ∨ (kd = 4 ∧ ((b = true ∧ vx = .map none) ∨ (b = false ∧ ∃ A, vx = .map (some A)))) ∨ (kd = 3 ∧ b = true ∧ ∃ n m, vx = .slice none n m) := by
  unfold nilQ at h
  split at h
  · injection h with h; exact .inl ⟨rfl, .inl ⟨h.symm, by simpa [sat] using hx⟩⟩
  · injection h with h
    obtain ⟨_, B, _, e⟩ := hx
    exact .inl ⟨rfl, .inr ⟨h.symm, _, by simpa using e⟩⟩
  · injection h with h
    obtain ⟨B, q, e, _⟩ := hx
    exact .inl ⟨rfl, .inr ⟨h.symm, _, by simpa using e⟩⟩
  · injection h with h
    obtain ⟨_, _, B, _, e⟩ := hx
    exact .inl ⟨rfl, .inr ⟨h.symm, _, by simpa using e⟩⟩
  · injection h with h; exact .inr (.inl ⟨rfl, .inl ⟨h.symm, by simpa [sat] using hx⟩⟩)
  · injection h with h
    obtain ⟨_, ⟨B, e1⟩, e⟩ := hx
    exact .inr (.inl ⟨rfl, .inr ⟨h.symm, B, by rw [← e1]; simpa using e⟩⟩)
  · injection h with h; exact .inr (.inr ⟨rfl, h.symm, _, _, by simpa [sat] using hx⟩)
  · cases h
theorem eqIn_ptr {t e : TypeId} (hu : P.underlying t = some (.pointer e)) (w : World) (d : Nat) (A B : Option Addr) (h : (A.isNone || B.isNone) = true) : (Op.equalIn (d + 1) t (.pointer A) (.pointer B)).run P w = .ok (A.isNone && B.isNone) w := by
  cases A <;> cases B <;> first | (cases h; done) | (simp only [Op.equalIn, Sem.run_bind, run_underlying hu, Result.andThen_ok]; rfl)
theorem eqIn_map {t k e : TypeId} (hu : P.underlying t = some (.map k e)) (w : World) (d : Nat) (A B : Option Nat) (h : (A.isNone || B.isNone) = true) : (Op.equalIn (d + 1) t (.map A) (.map B)).run P w = .ok (A.isNone && B.isNone) w := by
  cases A <;> cases B <;> first | (cases h; done) | (simp only [Op.equalIn, Sem.run_bind, run_underlying hu, Result.andThen_ok]; rfl)
theorem eqIn_slice {t e : TypeId} (hu : P.underlying t = some (.slice e)) (w : World) (d : Nat) (A : Option Addr) (n m n' m' : Nat) : (Op.equalIn (d + 1) t (.slice A n m) (.slice none n' m')).run P w = .ok A.isNone w := by
  cases A <;> (simp only [Op.equalIn, Sem.run_bind, run_underlying hu, Result.andThen_ok]; rfl)
theorem run_nilEq {t : TypeId} {x y : Operand} {vx vy : Value} {w : World} {r : Bool} (hv : (∃ A B, vx = .pointer A ∧ vy = .pointer B) ∨ (∃ A B, vx = .map A ∧ vy = .map B) ∨ ∃ A n m B n' m', vx = .slice A n m ∧ vy = .slice B n' m') (h : ∀ d, (Op.equalIn (d + 1) t vx vy).run P w = .ok r w) :
    (do eqGuard .eql t x y vx vy; binOp .eql t vx vy : Sem Value).run P w = .ok (.bool r) w ∧ (do eqGuard .neq t x y vx vy; binOp .neq t vx vy : Sem Value).run P w = .ok (.bool (!r)) w := by
  have h2 := h 9999
  have e1 : Op.equal t vx vy = Op.equalIn (9999 + 1) t vx vy := rfl
  rcases hv with ⟨A, B, rfl, rfl⟩ | ⟨A, B, rfl, rfl⟩ | ⟨A, _, _, B, _, _, rfl, rfl⟩ <;> refine ⟨?_, ?_⟩ <;> simp only [eqGuard, binOp, e1, Sem.run_bind, Sem.run_pure, Result.andThen_ok, h2, reduceCtorEq, Bool.not_eq_true, if_false, if_true] <;> first | rfl | (simp [h2])
theorem good_nilR (hT : ∀ t i, tyOf E.ty t = some i → TIok P t i) (op : BinOp) (t t' : TypeId) (x y : Operand) (hop : o.op = .binOp op t x y t') {ax ay : AV} (hx : sat ax c [a.eval x]) (hy : sat ay c [a.eval y]) :
    GoodR P W0 X N c fr hp nx a o (nilR E op t ax ay) := by
  unfold nilR
  split
  · rename_i i hi
    split
    · rename_i p q hp hq
      cases hpq : (p || q) with
      | false => trivial
      | true =>
        simp only [cond_true]
        have hI := hT t i hi
        rcases nilQ_ok hp hx with ⟨h6, h1⟩ | ⟨h4, h1⟩ | ⟨h3, rfl, n1, m1, e1⟩
        · obtain ⟨e, hu⟩ := hI.pt h6
          have h2 : (q = true ∧ a.eval y = .pointer none) ∨ (q = false ∧ ∃ A, a.eval y = .pointer (some A)) := by
            rcases nilQ_ok hq hy with ⟨_, h2⟩ | ⟨h4, _⟩ | ⟨h4, _⟩
            · exact h2
            · rw [h6] at h4; cases h4
            · rw [h6] at h4; cases h4
          have key : ∃ A B, a.eval x = .pointer A ∧ a.eval y = .pointer B ∧ A.isNone = p ∧ B.isNone = q := by
            rcases h1 with ⟨rfl, e1⟩ | ⟨rfl, A, e1⟩ <;> rcases h2 with ⟨rfl, e2⟩ | ⟨rfl, B, e2⟩ <;> exact ⟨_, _, e1, e2, rfl, rfl⟩
          obtain ⟨A, B, e1, e2, rfl, rfl⟩ := key
          have hr := run_nilEq (x := x) (y := y) (w := c.w) (.inl ⟨A, B, rfl, rfl⟩) fun d => eqIn_ptr hu c.w d A B hpq
          refine good_eqR (fun r he ho => ?_) (fun r he ho => ?_)
          · injection he with he; subst he ho; exact okv_bin hop e1 e2 hr.1
          · injection he with he; subst he ho; exact okv_bin hop e1 e2 hr.2
        · have hu := hI.mp h4
          have h2 : (q = true ∧ a.eval y = .map none) ∨ (q = false ∧ ∃ A, a.eval y = .map (some A)) := by
            rcases nilQ_ok hq hy with ⟨h6, _⟩ | ⟨_, h2⟩ | ⟨h6, _⟩
            · rw [h4] at h6; cases h6
            · exact h2
            · rw [h4] at h6; cases h6
          have key : ∃ A B, a.eval x = .map A ∧ a.eval y = .map B ∧ A.isNone = p ∧ B.isNone = q := by
            rcases h1 with ⟨rfl, e1⟩ | ⟨rfl, A, e1⟩ <;> rcases h2 with ⟨rfl, e2⟩ | ⟨rfl, B, e2⟩ <;> exact ⟨_, _, e1, e2, rfl, rfl⟩
          obtain ⟨A, B, e1, e2, rfl, rfl⟩ := key
          have hr := run_nilEq (x := x) (y := y) (w := c.w) (.inr (.inl ⟨A, B, rfl, rfl⟩)) fun d => eqIn_map hu c.w d A B hpq
          refine good_eqR (fun r he ho => ?_) (fun r he ho => ?_)
          · injection he with he; subst he ho; exact okv_bin hop e1 e2 hr.1
          · injection he with he; subst he ho; exact okv_bin hop e1 e2 hr.2
        · have hu := hI.sl h3
          obtain ⟨rfl, n2, m2, e2⟩ : q = true ∧ ∃ n m, a.eval y = .slice none n m := by
            rcases nilQ_ok hq hy with ⟨h6, _⟩ | ⟨h6, _⟩ | ⟨_, h2⟩
            · rw [h3] at h6; cases h6
            · rw [h3] at h6; cases h6
            · exact h2
          have hr := run_nilEq (x := x) (y := y) (w := c.w) (.inr (.inr ⟨_, _, _, _, _, _, rfl, rfl⟩)) fun d => eqIn_slice hu c.w d none n1 m1 n2 m2
          refine good_eqR (fun r he ho => ?_) (fun r he ho => ?_)
          · injection he with he; subst he ho; exact okv_bin hop e1 e2 hr.1
          · injection he with he; subst he ho; exact okv_bin hop e1 e2 hr.2
    · trivial
  · trivial
theorem nilSl_ok {x y : AV} {e : Nat} (h : nilSl x y = some e) {vx vy : Value} (hx : sat x c [vx]) (hy : sat y c [vy]) : ∃ A n m n' m', vx = .slice A n m ∧ vy = .slice none n' m' ∧ (A = none → e = 1) := by
  have em : ∀ {α : Type} (l : List α), l = [] → emptyN l = 1 := fun l h => by subst h; rfl
  unfold nilSl at h
  split at h
  · rename_i q t l n' m'
    injection h with h
    obtain ⟨A, m, e1, _, hL⟩ := hx
    refine ⟨A, _, m, n', m', by simpa using e1, by simpa [sat] using hy, fun hA => ?_⟩
    rw [← h]
    refine em l ?_
    cases l with
    | nil => rfl
    | cons z l =>
      obtain ⟨ad, hA', _⟩ := hL 0 z rfl
      rw [hA] at hA'; cases hA'
  · rename_i q t l n' m'
    injection h with h
    obtain ⟨A, e1, hL⟩ := hx
    refine ⟨A, _, _, n', m', by simpa using e1, by simpa [sat] using hy, fun hA => ?_⟩
    rw [← h]
    refine em l ?_
    cases l with
    | nil => rfl
    | cons z l =>
      obtain ⟨ad, hA', _⟩ := hL 0 z rfl
      rw [hA] at hA'; cases hA'
  · rename_i n' m'
    injection h with h
    obtain ⟨A, e1⟩ := hx
    exact ⟨A, 0, 0, n', m', by simpa using e1, by simpa [sat] using hy, fun _ => h.symm⟩
  · cases h
theorem good_nilSR (hT : ∀ t i, tyOf E.ty t = some i → TIok P t i) (h : Gam W0 X N c fr hp nx a) (op : BinOp) (t t' : TypeId) (x y : Operand) (hop : o.op = .binOp op t x y t') {e : Nat} (he : nilSl (ρ x) (ρ y) = some e) (hx : sat (ρ x) c [a.eval x]) (hy : sat (ρ y) c [a.eval y]) :
    GoodR P W0 X N c fr hp nx a o (nilSR E hp op t e) := by
  unfold nilSR
  split
  · rename_i i hi
    cases hk : Nat.beq i.kd 3 with
    | false => trivial
    | true =>
      simp only [cond_true]
      have hu := (hT t i hi).sl (Nat.eq_of_beq_eq_true hk)
      obtain ⟨A, n, m, n', m', e1, e2, hA⟩ := nilSl_ok he hx hy
      have hr := run_nilEq (x := x) (y := y) (w := c.w) (.inr (.inr ⟨_, _, _, _, _, _, rfl, rfl⟩)) fun d => eqIn_slice hu c.w d A n m n' m'
      have hk2 : ∃ k, k < e + 1 ∧ Nat.beq k 1 = A.isNone := by
        cases hq : A with
        | none => exact ⟨1, by rw [hA hq]; decide, rfl⟩
        | some ad => exact ⟨0, Nat.succ_pos _, rfl⟩
      obtain ⟨k, hk1, hk3⟩ := hk2
      have hnl : Gam W0 X N c fr hp hp.length a := h.nl ▸ h
      cases op <;> try trivial
      · refine ⟨fun h0 => absurd h0 (Nat.succ_ne_zero _), fun _ => ?_⟩
        obtain ⟨v, hrun, hv⟩ := okv_bin (a := a) (c := c) hop e1 e2 hr.1
        exact ⟨k, v, c, hk1, hrun, hnl, by dsimp only; rw [hk3]; exact hv⟩
      · refine ⟨fun h0 => absurd h0 (Nat.succ_ne_zero _), fun _ => ?_⟩
        obtain ⟨v, hrun, hv⟩ := okv_bin (a := a) (c := c) hop e1 e2 hr.2
        exact ⟨k, v, c, hk1, hrun, hnl, by dsimp only; rw [hk3]; exact hv⟩
  · trivial
theorem good_binR (hT : ∀ t i, tyOf E.ty t = some i → TIok P t i) (op : BinOp) (t t' : TypeId) (x y : Operand) (hop : o.op = .binOp op t x y t') (hx : sat (ρ x) c [a.eval x]) (hy : sat (ρ y) c [a.eval y]) :
    GoodR P W0 X N c fr hp nx a o (binR E op t (ρ x) (ρ y)) := by
  generalize hvx : ρ x = ax at hx
  generalize hvy : ρ y = ay at hy
  unfold binR
  split
  · exact good_nilR hT op t t' x y hop hx hy
  · exact good_nilR hT op t t' x y hop hx hy
  · exact good_nilR hT op t t' x y hop hx hy
  · rename_i p q
    have e1 : a.eval x = .string p := by simpa [sat] using hx
    have e2 : a.eval y = .string q := by simpa [sat] using hy
    split
    · rename_i i hi
      split
      · rename_i he hag
        have hu : P.underlying t = some .string := flat_str ((hT t i hi).eq _ he).2 (by rw [(hT t i hi).ag, hag])
        refine good_eqR (fun r hr ho => ?_) (fun r hr ho => ?_)
        · injection hr with hr; subst hr ho
          refine okv_bin hop e1 e2 ?_
          simp [eqGuard, binOp, Op.stringOp]
        · injection hr with hr; subst hr ho
          refine okv_bin hop e1 e2 ?_
          simp [eqGuard, binOp, Op.stringOp]
      · trivial
    · trivial
  · rename_i p q
    have e1 : a.eval x = .bool p := by simpa [sat] using hx
    have e2 : a.eval y = .bool q := by simpa [sat] using hy
    split
    · rename_i i hi
      split
      · rename_i he hag
        have hu : P.underlying t = some .bool := flat_bool ((hT t i hi).eq _ he).2 (by rw [(hT t i hi).ag, hag])
        refine good_eqR (fun r hr ho => ?_) (fun r hr ho => ?_)
        · injection hr with hr; subst hr ho
          refine okv_bin hop e1 e2 ?_
          simp [eqGuard, binOp, Op.equal, Op.maxDepth, run_equalIn_bool' c.w 9999 t p q hu]
        · injection hr with hr; subst hr ho
          refine okv_bin hop e1 e2 ?_
          simp [eqGuard, binOp, Op.equal, Op.maxDepth, run_equalIn_bool' c.w 9999 t p q hu]
      · trivial
    · trivial
  · exact good_bin op t t' x y hop (by simpa [sat] using hx) (by simpa [sat] using hy)
  · rename_i l m
    split
    · rename_i i hi
      split
      · rename_i ks he
        cases hag : i.ag with
        | false => trivial
        | true =>
          simp only [cond_true]
          obtain ⟨xs, e1, hxs⟩ := hx
          obtain ⟨ys, e2, hys⟩ := hy
          have e1' : a.eval x = .agg xs := by simpa using e1
          have e2' : a.eval y = .agg ys := by simpa using e2
          obtain ⟨hg, hf⟩ := (hT t i hi).eq ks he
          have hr : (P.underlying t).map TypeDesc.isRow = some true := by rw [(hT t i hi).ag, hag]
          have key : ∀ q, eqQ ks l m = some q → (Op.equalIn 10000 t (.agg xs) (.agg ys)).run P c.w = .ok q c.w := fun q hq => flat_eq hf (by omega) hr (eqQ_ok ks hq hxs hys) c.w
          refine good_eqR (fun q hq ho => ?_) (fun q hq ho => ?_)
          · subst ho
            refine okv_bin hop e1' e2' ?_
            rw [Sem.run_bind, run_eqGuard_agg _ _ _ _ _ _ _ hg, Result.andThen_ok, run_eql_struct, key q hq, Result.andThen_ok]
          · subst ho
            refine okv_bin hop e1' e2' ?_
            rw [Sem.run_bind, run_eqGuard_agg _ _ _ _ _ _ _ hg, Result.andThen_ok, run_neq_struct, key q hq, Result.andThen_ok]
      · trivial
    · trivial
  · exact good_nilR hT op t t' x y hop hx hy
theorem good_convert (hT : ∀ t i, tyOf E.ty t = some i → TIok P t i) (s t : TypeId) (x : Operand) (hop : o.op = .convert s t x) {is i : TI} (his : TIok P s is) (hi : TIok P t i) {k0 : IntKind} {z : Int} (hx : a.eval x = .int k0 z) {k : IntKind} (hk : i.ik = some k) :
    OKv P c a o (.v (.int k (k.wrap z))) := by
  refine ⟨_, ?_, rfl⟩
  have hu := hi.ik k hk
  have hsu := his.ag
  cases hq : P.underlying s with
  | none => simp [hq] at hsu
  | some d =>
    unfold execOp; rw [hop]
    simp only [hx, Sem.run_bind, convert, run_underlying hu, run_underlying hq, Result.andThen_ok]
    cases d <;> simp [Conv.intToInt]
theorem sat_list (l : List Operand) (h : ∀ p ∈ l, sat (ρ p) c [a.eval p]) : sat (l.foldr (fun x l => .cons (ρ x) l) .nil) c (l.map a.eval) := by
  induction l with
  | nil => exact rfl
  | cons p l ih => exact ⟨a.eval p, l.map a.eval, rfl, h p (by simp), ih fun q hq => h q (by simp [hq])⟩
theorem sat_app : ∀ (x : AV) {y : AV} {xs ys : List Value}, (∃ n, lenIs x n = true) → sat x c xs → sat y c ys → sat (appA x y) c (xs ++ ys)
  | .nil, y, xs, ys, _, hx, hy => by
    have : xs = [] := hx
    subst this
    exact hy
  | .cons v l, y, xs, ys, ⟨n, hn⟩, ⟨q, r, e, h1, h2⟩, hy => by
    subst e
    cases n with
    | zero => cases hn
    | succ n => exact ⟨q, r ++ ys, rfl, h1, sat_app l ⟨n, hn⟩ h2 hy⟩
  | .u, _, _, _, ⟨n, h⟩, _, _ => by cases n <;> cases h
  | .v _, _, _, _, ⟨n, h⟩, _, _ => by cases n <;> cases h
  | .agg _, _, _, _, ⟨n, h⟩, _, _ => by cases n <;> cases h
  | .tup _, _, _, _, ⟨n, h⟩, _, _ => by cases n <;> cases h
  | .fn _ _, _, _, _, ⟨n, h⟩, _, _ => by cases n <;> cases h
  | .gd _ _, _, _, _, ⟨n, h⟩, _, _ => by cases n <;> cases h
  | .ptr _ _, _, _, _, ⟨n, h⟩, _, _ => by cases n <;> cases h
  | .sc _ _ _ _ _, _, _, _, ⟨n, h⟩, _, _ => by cases n <;> cases h
  | .rl _ _ _, _, _, _, ⟨n, h⟩, _, _ => by cases n <;> cases h
  | .rc _ _ _, _, _, _, ⟨n, h⟩, _, _ => by cases n <;> cases h
  | .em, _, _, _, ⟨n, h⟩, _, _ => by cases n <;> cases h
  | .rp _ _ _, _, _, _, ⟨n, h⟩, _, _ => by cases n <;> cases h
  | .ow _ _ _, _, _, _, ⟨n, h⟩, _, _ => by cases n <;> cases h
  | .ws _ _ _ _, _, _, _, ⟨n, h⟩, _, _ => by cases n <;> cases h
  | .op _ _ _ _, _, _, _, ⟨n, h⟩, _, _ => by cases n <;> cases h
theorem list_len (l : List Operand) : lenIs (l.foldr (fun x l => .cons (ρ x) l) .nil) l.length = true := by
  induction l with
  | nil => rfl
  | cons p l ih => exact ih
theorem good_makeFunc (f : FuncId) (first cap : Array Operand) (hop : o.op = .makeFunc (.func f) first cap) (hf : first.isEmpty = true) (hx : ∀ p ∈ cap.toList, sat (ρ p) c [a.eval p]) :
    OKv P c a o (.fn f (cap.toList.foldr (fun x l => .cons (ρ x) l) .nil)) := by
  have hfe : first = #[] := by simpa using hf
  subst hfe
  refine ⟨.func (.func f) #[] (cap.map a.eval), ?_, cap.map a.eval, rfl, by simpa using sat_list _ hx⟩
  unfold execOp; rw [hop]
  simp [Instr.makeFunc, Sem.run_bind]
theorem bnd_ok {d : Int} {v : Option Operand} {z : Int} (h : bnd d (v.map ρ) = some z) (hx : ∀ p, v = some p → sat (ρ p) c [a.eval p]) : (v = none ∧ z = d) ∨ ∃ p k, v = some p ∧ a.eval p = .int k z := by
  cases v with
  | none => injection h with h; exact .inl ⟨rfl, h.symm⟩
  | some p =>
    refine .inr ⟨p, ?_⟩
    have hp := hx p rfl
    simp only [Option.map_some, bnd] at h
    generalize ρ p = q at h hp
    unfold bndV at h
    split at h
    · injection h with h; subst h
      exact ⟨_, rfl, by simpa [sat] using hp⟩
    · cases h
theorem bounds_ok {isSlice : Bool} {len cap : Nat} {lo hi mx : Option Operand} {l h m : Int} (hl : bnd 0 (lo.map ρ) = some l) (hh : bnd len (hi.map ρ) = some h) (hm : bnd cap (mx.map ρ) = some m) (hmh : (mx.isNone || hi.isSome) = true)
    (hxl : ∀ p, lo = some p → sat (ρ p) c [a.eval p]) (hxh : ∀ p, hi = some p → sat (ρ p) c [a.eval p]) (hxm : ∀ p, mx = some p → sat (ρ p) c [a.eval p]) (h0 : 0 ≤ l) (h1 : l ≤ h) (h2 : h ≤ m) (h3 : m ≤ cap) (w : World) :
    (Instr.sliceBounds isSlice len cap (lo.map a.eval) (hi.map a.eval) (mx.map a.eval)).run P w = .ok (l.toNat, h.toNat, m.toNat) w := by
  have sb : ∀ (k : IntKind) (i : Int) (y : Nat) (code : BoundsCode), 0 ≤ i → i ≤ y → (Instr.sliceBound (.int k i) y code).run P w = .ok i.toNat w := fun k i y code h0 h1 => by
    simp [Instr.sliceBound, asIntOf, Sem.run_bind, h0, h1]
  unfold Instr.sliceBounds
  rcases bnd_ok hm hxm with ⟨rfl, rfl⟩ | ⟨pm, km, rfl, em⟩
  · rcases bnd_ok hh hxh with ⟨rfl, rfl⟩ | ⟨ph, kh, rfl, eh⟩
    · rcases bnd_ok hl hxl with ⟨rfl, rfl⟩ | ⟨pl, kl, rfl, el⟩
      · simp [Sem.run_bind]
      · simp [Sem.run_bind, el, sb kl l len _ h0 (by omega)]
    · rcases bnd_ok hl hxl with ⟨rfl, rfl⟩ | ⟨pl, kl, rfl, el⟩
      · simp [Sem.run_bind, eh, sb kh h cap _ (by omega) (by omega)]
      · simp [Sem.run_bind, eh, sb kh h cap _ (by omega) (by omega), el, sb kl l h.toNat _ h0 (by omega)]
  · rcases bnd_ok hh hxh with ⟨rfl, rfl⟩ | ⟨ph, kh, rfl, eh⟩
    · simp at hmh
    · rcases bnd_ok hl hxl with ⟨rfl, rfl⟩ | ⟨pl, kl, rfl, el⟩
      · simp [Sem.run_bind, em, sb km m cap _ (by omega) (by omega), eh, sb kh h m.toNat _ (by omega) (by omega)]
      · simp [Sem.run_bind, em, sb km m cap _ (by omega) (by omega), eh, sb kh h m.toNat _ (by omega) (by omega), el, sb kl l h.toNat _ h0 (by omega)]
theorem sliceBound_ok (k : IntKind) (i : Int) (y : Nat) (code : BoundsCode) (w : World) (h0 : 0 ≤ i) (h1 : i ≤ y) : (Instr.sliceBound (.int k i) y code).run P w = .ok i.toNat w := by
  simp [Instr.sliceBound, asIntOf, Sem.run_bind, h0, h1]
theorem good_slice (t : TypeId) (x : Operand) (lo hi mx : Option Operand) (hop : o.op = .slice t x lo hi mx) (i : TI) (hti : TIok P t i) (k : Nat) (te : Option Ty) (hk : ∀ w : World, i.kd = 2 ∨ i.kd = 3 → (sizeOf i.el).run P w = .ok k w)
    (hx : sat (ρ x) c [a.eval x]) (hxl : ∀ p, lo = some p → sat (ρ p) c [a.eval p]) (hxh : ∀ p, hi = some p → sat (ρ p) c [a.eval p]) (hxm : ∀ p, mx = some p → sat (ρ p) c [a.eval p]) :
    GoodR P W0 X N c fr hp nx a o (sliceR i k te (sameOp hi mx) (zeroOp hi) (lo.map ρ) (hi.map ρ) (mx.map ρ) (ρ x)) := by
  have fin : ∀ (v : AV) (y : Value), (Instr.sliceAt t (a.eval x) (lo.map a.eval) (hi.map a.eval) (mx.map a.eval)).run P c.w = .ok y c.w → sat v c [y] → OKv P c a o v := fun v y hr hv => by
    refine ⟨y, ?_, hv⟩
    unfold execOp; rw [hop]
    simp only [Sem.run_bind, hr, Result.andThen_ok, Sem.run_pure]
  have off : ∀ (b q l m : Nat), (some (if m = l then (⟨b, q, none⟩ : Addr) else (⟨b, q, none⟩ : Addr).add (l * k)) : Option Addr) = some ⟨b, bif Nat.beq m l then q else q + l * k, none⟩ := fun b q l m => by
    by_cases h : m = l
    · subst h; simp
    · simp [h, Addr.add_mid, beq_ne h]
  have rlCase : ∀ (A : Option Addr) (n cp : Nat) (q : Bool) (τ : Ty) (L : List (El τ)), n ≤ cp → n = L.length → a.eval x = .slice A n cp → qb q c.b0 = qb q c.b0 → memL c.w c.O (qb q c.b0) (tsz τ) (memE c.w c.O (qb q c.b0) τ) A L →
      GoodR P W0 X N c fr hp nx a o (bif Nat.beq i.kd 3 && Nat.beq (tsz τ) k then (match bnd 0 (lo.map ρ), bnd L.length (hi.map ρ) with
        | some l, some h => bif (mx.map ρ).isNone then .ob (0 ≤ l ∧ l ≤ h ∧ h ≤ L.length) (.rl q τ (cutL L (lo.map ρ) (hi.map ρ) l.toNat h.toNat))
          else bif sameOp hi mx then (bif zeroOp hi then .ob (l = 0 ∧ h = 0) .em else .ob (0 ≤ l ∧ l ≤ h ∧ h ≤ L.length) (.rc q τ (cutL L (lo.map ρ) (hi.map ρ) l.toNat h.toNat))) else (match hi.map ρ, bnd 0 (mx.map ρ) with
            | some _, some m => .ob ((0 ≤ l ∧ l ≤ h ∧ h ≤ L.length) ∧ m = h) (.rc q τ (cutL L (lo.map ρ) (hi.map ρ) l.toNat h.toNat))
            | _, _ => .no)
        | _, _ => .no) else .no) := by
    intro A n cp q τ L hnm hn e' _ hL
    subst hn
    cases hc : (Nat.beq i.kd 3 && Nat.beq (tsz τ) k) with
    | false => trivial
    | true =>
      simp only [Bool.and_eq_true] at hc
      simp only [cond_true]
      have hkd := Nat.eq_of_beq_eq_true hc.1
      have hkk := Nat.eq_of_beq_eq_true hc.2
      split
      · rename_i l h hl hh
        have cut : 0 ≤ l → l ≤ h → h ≤ L.length → cutL L (lo.map ρ) (hi.map ρ) l.toNat h.toNat = (L.take h.toNat).drop l.toNat := fun h0 h1 h2 => by
          unfold cutL
          cases lo with
          | none =>
            have hl0 : l = 0 := by injection hl with hl; exact hl.symm
            subst hl0
            cases hi with
            | none =>
              have : h = L.length := by injection hh with hh; exact hh.symm
              subst this; simp
            | some p => simp
          | some p' =>
            cases hi with
            | none =>
              have : h = L.length := by injection hh with hh; exact hh.symm
              subst this; simp
            | some p => simp
        have elems : 0 ≤ l → l ≤ h → h ≤ L.length → ∀ A', (A' = (if cp = l.toNat then A else A.map (·.add (l.toNat * k)))) ∨ (∃ m : Nat, h.toNat ≤ m ∧ A' = (if m = l.toNat then A else A.map (·.add (l.toNat * k)))) → memL c.w c.O (qb q c.b0) (tsz τ) (memE c.w c.O (qb q c.b0) τ) A' ((L.take h.toNat).drop l.toNat) := by
          intro h0 h1 h2 A' hA' p y hp
          have hpl : p < ((L.take h.toNat).drop l.toNat).length := (List.getElem?_eq_some_iff.1 hp).1
          simp at hpl
          rw [List.getElem?_drop, List.getElem?_take, if_pos (by omega)] at hp
          obtain ⟨ad, hA, hsp, hO, hb, hb0, cs, hcl, hr, hE⟩ := hL _ y hp
          have : A' = A.map (·.add (l.toNat * k)) := by
            rcases hA' with e | ⟨m, hm, e⟩
            · rw [e, if_neg (by omega)]
            · rw [e, if_neg (by omega)]
          obtain ⟨b, p0, sp⟩ := ad
          simp only at hsp hO hb hr hb0
          subst hsp
          subst hA
          refine ⟨⟨b, p0 + l.toNat * k, none⟩, by rw [this]; simp [Addr.add_mid], rfl, hO, hb, hb0, cs, hcl, ?_, hE⟩
          rw [show p0 + l.toNat * k + p * tsz τ = p0 + (l.toNat + p) * tsz τ by rw [hkk, Nat.add_mul]; omega]
          exact hr
        cases hmx : mx with
        | none =>
          subst hmx
          simp only [Option.map_none, Option.isNone_none, cond_true]
          rintro ⟨h0, h1, h2⟩
          have hb := bounds_ok (isSlice := true) (len := L.length) (cap := cp) (a := a) (mx := none) (m := cp) hl hh rfl rfl hxl hxh hxm h0 h1 (by omega) (by omega) c.w (P := P)
          rw [cut h0 h1 h2]
          refine fin _ (.slice (if cp = l.toNat then A else A.map (·.add (l.toNat * k))) (h.toNat - l.toNat) (cp - l.toNat)) ?_ ⟨_, cp - l.toNat, by rw [List.length_drop, List.length_take, Nat.min_eq_left (by omega)], by simp; omega, elems h0 h1 h2 _ (.inl rfl)⟩
          simp only [Option.map_none] at hb
          simp only [Instr.sliceAt, Sem.run_bind, run_underlying (hti.sl hkd), Result.andThen_ok, e', Instr.slice, Option.map_none, hb, hk c.w (.inr hkd), Sem.run_pure, Int.toNat_natCast]
        | some pm =>
          subst hmx
          simp only [Option.map_some, Option.isNone_some, cond_false]
          have main : 0 ≤ l → l ≤ h → h ≤ L.length → (∃ ph km kh, hi = some ph ∧ a.eval ph = .int kh h ∧ a.eval pm = .int km h) → OKv P c a o (.rc q τ (cutL L (lo.map ρ) (hi.map ρ) l.toNat h.toNat)) := by
             intro h0 h1 h2 hpp
             obtain ⟨ph, km, kh, rfl, eh, em⟩ := hpp
             have hb : (Instr.sliceBounds true L.length cp (lo.map a.eval) (some (a.eval ph)) (some (a.eval pm))).run P c.w = .ok (l.toNat, h.toNat, h.toNat) c.w := by
                 unfold Instr.sliceBounds
                 rcases bnd_ok hl hxl with ⟨rfl, rfl⟩ | ⟨pl, kl, rfl, el⟩
                 · simp [Sem.run_bind, em, eh, sliceBound_ok km h cp _ c.w (by omega) (by omega), sliceBound_ok kh h h.toNat _ c.w (by omega) (by omega)]
                 · simp [Sem.run_bind, em, eh, el, sliceBound_ok km h cp _ c.w (by omega) (by omega), sliceBound_ok kh h h.toNat _ c.w (by omega) (by omega), sliceBound_ok kl l h.toNat _ c.w h0 (by omega)]
             rw [cut h0 h1 h2]
             refine fin _ (.slice (if h.toNat = l.toNat then A else A.map (·.add (l.toNat * k))) (h.toNat - l.toNat) (h.toNat - l.toNat)) ?_ ⟨_, by rw [List.length_drop, List.length_take, Nat.min_eq_left (by omega)], elems h0 h1 h2 _ (.inr ⟨h.toNat, Nat.le_refl _, rfl⟩)⟩
             simp only [Instr.sliceAt, Sem.run_bind, run_underlying (hti.sl hkd), Result.andThen_ok, e', Instr.slice, Option.map_some, hb, hk c.w (.inr hkd), Sem.run_pure, Int.toNat_natCast]
          cases hs : sameOp hi (some pm) with
          | false =>
            simp only [cond_false]
            split
            · rename_i vh m hvh hbm
              rintro ⟨⟨h0, h1, h2⟩, hmh⟩
              subst hmh
              rcases bnd_ok hh hxh with ⟨e1, _⟩ | ⟨ph, kh, e1, eh⟩
              · rw [e1] at hvh; cases hvh
              · rcases bnd_ok (v := some pm) hbm hxm with ⟨e2, _⟩ | ⟨pm', km, e2, em⟩
                · cases e2
                · injection e2 with e2; subst e2
                  exact main h0 h1 h2 ⟨ph, km, kh, e1, eh, em⟩
            · trivial
          | true =>
            simp only [cond_true]
            have pair : ∃ ph km kh, hi = some ph ∧ a.eval ph = .int kh h ∧ a.eval pm = .int km h := by
             obtain ⟨ph, rfl, hpp⟩ : ∃ ph, hi = some ph ∧ ∀ k z, a.eval ph = .int k z → ∃ k', a.eval pm = .int k' z := by
               unfold sameOp at hs
               split at hs
               · rename_i s1 s2 x1 x2 e2
                 injection e2 with e2; subst e2
                 have := Nat.eq_of_beq_eq_true hs
                 subst this
                 exact ⟨_, rfl, fun k z e => ⟨k, e⟩⟩
               · rename_i s1 s2 k1 x1 k2 x2 e2
                 injection e2 with e2; subst e2
                 have := of_decide_eq_true hs
                 subst this
                 exact ⟨_, rfl, fun k z e => ⟨k2, by injection e with e e'; subst e'; rfl⟩⟩
               · cases hs
             rcases bnd_ok hh hxh with ⟨e1, _⟩ | ⟨ph', kh, e1, eh⟩
             · cases e1
             · injection e1 with e1; subst e1
               obtain ⟨km, em⟩ := hpp _ _ eh
               exact ⟨_, km, kh, rfl, eh, em⟩
            cases hz : zeroOp hi with
            | false =>
              simp only [cond_false]
              rintro ⟨h0, h1, h2⟩
              exact main h0 h1 h2 pair
            | true =>
              simp only [cond_true]
              rintro ⟨h0, h1⟩
              obtain ⟨y, hy, A', e, hL'⟩ := main (by omega) (by omega) (by omega) pair
              refine ⟨y, hy, A', ?_⟩
              rw [e, cut (by omega) (by omega) (by omega)]
              subst h0 h1
              rfl
      · trivial
  generalize ρ x = r at hx
  cases r with
  | ptr j q =>
    simp only [sliceR, cutR_eq]
    cases hc : (Nat.beq i.kd 2 && ((mx.map ρ).isNone || (hi.map ρ).isSome)) with
    | false => trivial
    | true =>
      simp only [Bool.and_eq_true] at hc
      simp only [cond_true]
      split
      · rename_i l h m hl hh hm
        rintro ⟨h0, h1, h2, h3⟩
        obtain ⟨hj, b, hb, e⟩ := hx
        have e' : a.eval x = .pointer (some ⟨b, q, none⟩) := by simpa using e
        have hkd := Nat.eq_of_beq_eq_true hc.1
        refine fin _ (.slice (some ⟨b, bif Nat.beq m.toNat l.toNat then q else q + l.toNat * k, none⟩) (h.toNat - l.toNat) (m.toNat - l.toNat)) ?_ ⟨hj, b, hb, rfl⟩
        simp only [Instr.sliceAt, Sem.run_bind, run_underlying (hti.ar hkd), Result.andThen_ok, e', Instr.sureAddr, Sem.run_pure,
          bounds_ok hl hh hm (by simpa using hc.2) hxl hxh hxm h0 h1 h2 h3 c.w, hk c.w (.inl hkd), off]
      · trivial
  | sc j q n cp τ =>
    simp only [sliceR, cutR_eq]
    cases hc : (Nat.beq i.kd 3 && ((mx.map ρ).isNone || (hi.map ρ).isSome)) with
    | false => trivial
    | true =>
      simp only [Bool.and_eq_true] at hc
      simp only [cond_true]
      split
      · rename_i l h m hl hh hm
        rintro ⟨h0, h1, h2, h3⟩
        obtain ⟨hj, b, hb, e⟩ := hx
        have e' : a.eval x = .slice (some ⟨b, q, none⟩) n cp := by simpa using e
        have hkd := Nat.eq_of_beq_eq_true hc.1
        refine fin _ (.slice (some ⟨b, bif Nat.beq m.toNat l.toNat then q else q + l.toNat * k, none⟩) (h.toNat - l.toNat) (m.toNat - l.toNat)) ?_ ⟨hj, b, hb, rfl⟩
        have hmap : (if m.toNat = l.toNat then some (⟨b, q, none⟩ : Addr) else Option.map (fun ad : Addr => ad.add (l.toNat * k)) (some ⟨b, q, none⟩)) = some ⟨b, bif Nat.beq m.toNat l.toNat then q else q + l.toNat * k, none⟩ := by
          rw [← off]; split <;> rfl
        simp only [Instr.sliceAt, Sem.run_bind, run_underlying (hti.sl hkd), Result.andThen_ok, e', Instr.slice,
          bounds_ok hl hh hm (by simpa using hc.2) hxl hxh hxm h0 h1 h2 h3 c.w, hk c.w (.inr hkd), hmap, Sem.run_pure]
      · trivial
  | rl q τ L =>
    obtain ⟨A, cp, e, hnm, hL⟩ := hx
    simp only [sliceR, cutR_eq]
    exact rlCase A L.length cp q τ L hnm rfl (by simpa using e) rfl hL
  | rc q τ L =>
    obtain ⟨A, e, hL⟩ := hx
    simp only [sliceR, cutR_eq]
    exact rlCase A L.length L.length q τ L (Nat.le_refl _) rfl (by simpa using e) rfl hL
  | ow j k' n =>
    simp only [sliceR, cutR_eq]
    cases hc : (Nat.beq i.kd 3 && Nat.beq k' k && (mx.map ρ).isNone) with
    | false => trivial
    | true =>
      simp only [Bool.and_eq_true] at hc
      simp only [cond_true]
      split
      · rename_i l h hl hh
        rintro ⟨h0, h1, h2⟩
        obtain ⟨hj, hn, e, A, cp, hv, hnm⟩ := hx
        have e' : a.eval x = .slice A n cp := by rw [← hv]; simpa using e
        have hkd := Nat.eq_of_beq_eq_true hc.1.1
        have hmx : mx = none := by simpa using hc.2
        have hb := bounds_ok (isSlice := true) (len := n) (cap := cp) (a := a) (mx := mx) (m := cp) hl hh (by rw [hmx]; rfl) (by rw [hmx]; rfl) hxl hxh hxm h0 h1 (by omega) (by omega) c.w (P := P)
        refine fin _ (.slice (if cp = l.toNat then A else A.map (·.add (l.toNat * k))) (h.toNat - l.toNat) (cp - l.toNat)) ?_ ⟨hj, by omega, A, cp, _, by rw [← hn]; exact hv, by omega, fun hp => if_neg (by omega), rfl⟩
        simp only [Instr.sliceAt, Sem.run_bind, run_underlying (hti.sl hkd), Result.andThen_ok, e', Instr.slice, hb, hk c.w (.inr hkd), Sem.run_pure, Int.toNat_natCast]
      · trivial
  | ws j k' lo' n =>
    simp only [sliceR, cutR_eq]
    cases hc : (Nat.beq i.kd 3 && Nat.beq k' k && (mx.map ρ).isNone) with
    | false => trivial
    | true =>
      simp only [Bool.and_eq_true] at hc
      simp only [cond_true]
      split
      · rename_i l h hl hh
        rintro ⟨h0, h1, h2⟩
        obtain ⟨hj, hn, A, cp, A', hv, hnm, hA', e⟩ := hx
        have hkk := Nat.eq_of_beq_eq_true hc.1.2
        subst hkk
        have e' : a.eval x = .slice A' n (cp - lo') := by simpa using e
        have hkd := Nat.eq_of_beq_eq_true hc.1.1
        have hmx : mx = none := by simpa using hc.2
        have hb := bounds_ok (isSlice := true) (len := n) (cap := cp - lo') (a := a) (mx := mx) (m := ((cp - lo' : Nat) : Int)) hl hh (by rw [hmx]; rfl) (by rw [hmx]; rfl) hxl hxh hxm h0 h1 (by omega) (by omega) c.w (P := P)
        refine fin _ (.slice (if cp - lo' = l.toNat then A' else A'.map (·.add (l.toNat * k'))) (h.toNat - l.toNat) (cp - lo' - l.toNat)) ?_ ⟨hj, by omega, A, cp, _, hv, hnm, fun hp => ?_, by rw [Nat.sub_sub]⟩
        · simp only [Instr.sliceAt, Sem.run_bind, run_underlying (hti.sl hkd), Result.andThen_ok, e', Instr.slice, hb, hk c.w (.inr hkd), Sem.run_pure, Int.toNat_natCast]
        · rw [if_neg (by omega), hA' (by omega)]
          obtain ⟨b, rfl⟩ := c.at0 j _ _ _ hv (by omega)
          simp [Addr.add_mid, Nat.add_mul]
      · trivial
  | v y =>
    cases y with
    | string s =>
      simp only [sliceR, cutR_eq]
      cases hc : (Nat.beq i.kd 5 && (mx.map ρ).isNone) with
      | false => trivial
      | true =>
        simp only [Bool.and_eq_true] at hc
        simp only [cond_true]
        split
        · rename_i l h hl hh
          rintro ⟨h0, h1, h2⟩
          have e' : a.eval x = .string s := by simpa [sat] using hx
          have hkd := Nat.eq_of_beq_eq_true hc.1
          have hmx : mx = none := by simpa using hc.2
          refine fin _ _ ?_ rfl
          have := bounds_ok (isSlice := false) (len := s.size) (cap := s.size) (a := a) (mx := mx) (m := s.size) hl hh (by rw [hmx]; rfl) (by rw [hmx]; rfl) hxl hxh hxm h0 h1 (by omega) (by omega) c.w (P := P)
          rw [hmx] at this ⊢
          simp only [Option.map_none] at this ⊢
          simp only [Instr.sliceAt, Sem.run_bind, run_underlying (hti.tx hkd), Result.andThen_ok, e', Instr.slice, this, Sem.run_pure, Option.isSome_none, Bool.false_eq_true, if_false]
        · trivial
    | slice A n cp =>
      cases A with
      | some ad => trivial
      | none =>
        simp only [sliceR, cutR_eq]
        cases hc : (Nat.beq i.kd 3 && (mx.map ρ).isNone && Nat.beq n 0 && Nat.beq cp 0) with
        | false => trivial
        | true =>
          simp only [Bool.and_eq_true] at hc
          simp only [cond_true]
          split
          · rename_i l h hl hh
            rintro ⟨h0, h1⟩
            have e' : a.eval x = .slice none n cp := by simpa [sat] using hx
            have hkd := Nat.eq_of_beq_eq_true hc.1.1.1
            have hn := Nat.eq_of_beq_eq_true hc.1.2
            have hcp := Nat.eq_of_beq_eq_true hc.2
            subst h0 h1 hn hcp
            have hmx : mx = none := by simpa using hc.1.1.2
            have hb := bounds_ok (isSlice := true) (len := 0) (cap := 0) (a := a) (mx := mx) (m := 0) hl hh (by rw [hmx]; rfl) (by rw [hmx]; rfl) hxl hxh hxm (by omega) (by omega) (by omega) (by omega) c.w (P := P)
            refine fin _ (.slice none 0 0) ?_ rfl
            simp [Instr.sliceAt, Sem.run_bind, run_underlying (hti.sl hkd), Result.andThen_ok, e', Instr.slice, hb, hk c.w (.inr hkd), Sem.run_pure]
          · trivial
    | _ => trivial
  | _ => trivial
theorem run_builtin {cl : Call} {b : Builtin} (hop : o.op = .call cl) (hb : cl.callee = .builtin b) {w w' : World} {v : Value} (h : (builtin b cl.argTypes o.type (cl.args.map fun | .const _ => true | _ => false) (cl.args.map a.eval)).run P w = .ok (.value v) w') :
    (execOp a.eval o).run P w = .ok (.value v) w' := by
  unfold execOp; rw [hop]
  simp only [Sem.run_bind, resolve, hb, Sem.run_pure, Result.andThen_ok, invoke]
  exact h
theorem setR_ok (h : Gam W0 X N c fr hp nx a) {j q : Nat} {l c0 v : AV} (hj : getAO hp j = .cells l) {b : Nat} (hjn : j < c.n) (hk : c.loc j = some b) {cs : List Value} (hcs : sat c0 c cs) (y : Value) (hv : v = .v y)
    (hrun : ∀ (cur : Array Value) (t : TypeId), c.w.heap[b]? = some (.cells cur t (0, 0)) → q + cs.length ≤ cur.size → (∀ v ∈ cs, v.oneCell' = true) → (execOp a.eval o).run P c.w = .ok (.value y) (c.w.setRow b (cur.toList.take q ++ cs ++ cur.toList.drop (q + cs.length)).toArray)) :
    GoodR P W0 X N c fr hp nx a o (setR j l q c0 v) := by
  unfold setR
  cases hone : ones c0 with
  | false => trivial
  | true =>
    simp only [cond_true]
    cases hst : setc l q c0 with
    | none => trivial
    | some l' =>
      intro hjl
      obtain ⟨b', cur, ty, hk', hkey, hh, hs⟩ := h.o j _ (getAO_at hj (by simp))
      rw [hk] at hk'; injection hk' with hk'; subst hk'
      obtain ⟨hle, hs2⟩ := setc_ok l q c0 hst hs hcs
      obtain ⟨hg, _⟩ := h.setW (w' := c.w.setRow b (cur.toList.take q ++ cs ++ cur.toList.drop (q + cs.length)).toArray) (ob := .cells l') hjn ((hkey b).2 rfl) (size_setRow _ _ _) (fun k hkb => setRow_other _ _ _ _ hkb) rfl rfl rfl
        (fun st => ⟨b, _, ty, hk, hkey, setRow_heap c.w b cur _ ty _ hh, by simpa using sat_step _ st hs2⟩)
      refine ⟨y, _, ?_, hg, by rw [hv]; rfl⟩
      exact hrun cur ty hh (by simpa using hle) (ones_ok c0 hone hcs)
theorem run_copy {ts : Array TypeId} {t ty el : TypeId} {ts' : List TypeId} (hts : ts.toList = t :: ts') (hu : P.underlying t = some (.slice el)) {k : Nat} (w : World) (hk : (sizeOf el).run P w = .ok k w) {b q n m n' : Nat} {src : Value} (hl : (Builtin.lenOf src).run P w = .ok n' w)
    {cs : List Value} (hc : (Builtin.firstCells k (Nat.min n' n) src).run P w = .ok cs.toArray w) {cur : Array Value} {ct : TypeId} (hh : w.heap[b]? = some (.cells cur ct (0, 0))) (hle : q + cs.length ≤ cur.size) (hone : ∀ v ∈ cs, v.oneCell' = true) :
    (Builtin.copy_ ts ty #[.slice (some ⟨b, q, none⟩) n m, src]).run P w = .ok (.int .i64 (Nat.min n' n)) (w.setRow b (cur.toList.take q ++ cs ++ cur.toList.drop (q + cs.length)).toArray) := by
  have ht : ts[0]? = some t := by rw [← Array.getElem?_toList, hts]; rfl
  have hst := run_storeCells_at (P := P) b q ct cs 0 cur w hh (by simpa using hle) hone
  unfold Builtin.copy_
  simp only [ht, Sem.run_bind, run_underlying hu, Result.andThen_ok, hl, hk, hc, goInt]
  simp only [List.getElem?_toArray, List.getElem?_cons_zero, List.getElem?_cons_succ, Sem.run_bind, run_underlying hu, Result.andThen_ok, hl, hk, hc, hst, Sem.run_pure, Nat.add_zero]
theorem good_copy (h : Gam W0 X N c fr hp nx a) {cl : Call} (hop : o.op = .call cl) (hb : cl.callee = .builtin .copy) {t : TypeId} {ts : List TypeId} (hts : cl.argTypes.toList = t :: ts) {i ie : TI} (hi : TIok P t i) (hk : i.kd = 3) (hie : TIok P i.el ie) {x y : AV} {vx vy : Value} (hargs : cl.args.map a.eval = #[vx, vy]) (hx : sat x c [vx]) (hy : sat y c [vy]) :
    GoodR P W0 X N c fr hp nx a o (copyR hp ie.sz x y) := by
  have go : ∀ (b q n m n' j : Nat) (l c0 : AV) (cs : List Value), vx = .slice (some ⟨b, q, none⟩) n m → j < c.n → c.loc j = some b → getAO hp j = .cells l → (Builtin.lenOf vy).run P c.w = .ok n' c.w → (Builtin.firstCells ie.sz (Nat.min n' n) vy).run P c.w = .ok cs.toArray c.w → sat c0 c cs →
      GoodR P W0 X N c fr hp nx a o (setR j l q c0 (.v (.int .i64 (Nat.min n' n)))) := by
    intro b q n m n' j l c0 cs e1 hj hkey hjl hlen hfirst hcs
    refine setR_ok h hjl hj hkey hcs _ rfl fun cur ct hh hle hone => ?_
    refine run_builtin hop hb ?_
    rw [hargs, e1]
    simp only [builtin, Sem.run_bind, run_copy (ty := o.type) hts (hi.sl hk) c.w (run_sizeOf hie c.w) hlen hfirst hh hle hone, Result.andThen_ok, Sem.run_pure]
  cases x with
  | sc j q n m τ =>
    obtain ⟨hj, b, hkey, e1⟩ := hx
    have e1' : vx = .slice (some ⟨b, q, none⟩) n m := by simpa using e1
    cases y with
    | sc i' q' n' m' τ' =>
      have hy' := hy
      obtain ⟨hi', b', hkey', e2⟩ := hy
      have e2' : vy = .slice (some ⟨b', q', none⟩) n' m' := by simpa using e2
      simp only [copyR]
      split
      · rename_i li lj hli hlj
        split
        · rename_i cc hcc
          obtain ⟨b2, cs, ct, hk2, _, hh, hs⟩ := h.o i' _ (getAO_at hli (by simp))
          rw [hkey'] at hk2; injection hk2 with hk2; subst hk2
          obtain ⟨hle, hsp⟩ := part_ok li q' _ hcc hs
          have hr : c.w.rangeAt b' q' ((cs.toList.drop q').take (Nat.min n' n * ie.sz)) := fun p v hp => by
            rw [List.getElem?_take] at hp
            split at hp
            · simp [World.cell?, hh]
              simpa [List.getElem?_drop] using hp
            · cases hp
          refine go b q n m n' j lj cc ((cs.toList.drop q').take (Nat.min n' n * ie.sz)) e1' hj hkey hlj (by rw [e2']; rfl) ?_ hsp
          rw [e2']
          have hlc := run_loadCells_list (P := P) c.w (⟨b', q', none⟩ : Addr) _ (fun k v hv => by rw [Addr.add_mid]; exact hr k v hv)
          have hln : ((cs.toList.drop q').take (Nat.min n' n * ie.sz)).length = Nat.min n' n * ie.sz := by simp at hle ⊢; omega
          rw [hln] at hlc
          simpa [Builtin.firstCells] using hlc
        · trivial
      · trivial
    | _ => trivial
  | _ => cases y <;> trivial
theorem good_len {cl : Call} (hop : o.op = .call cl) (hb : cl.callee = .builtin .len) {t : TypeId} {ts : List TypeId} (hts : cl.argTypes.toList = t :: ts) {i : TI} (hi : TIok P t i) {x : AV} {vx : Value} (hargs : cl.args.map a.eval = #[vx]) (hx : sat x c [vx]) :
    GoodR P W0 X N c fr hp nx a o (lenR i x) := by
  have ht : cl.argTypes[0]? = some t := by rw [← Array.getElem?_toList, hts]; rfl
  have go : ∀ (d : TypeDesc) (n : Nat), P.underlying t = some d → (∀ w, (Builtin.len_ cl.argTypes o.type #[vx]).run P w = .ok (goInt n) w) → OKv P c a o (.v (.int .i64 n)) := fun d n hu hr => by
    refine ⟨.int .i64 n, ?_, rfl⟩
    refine run_builtin hop hb ?_
    rw [hargs]
    simp only [builtin, Sem.run_bind, hr, Result.andThen_ok, Sem.run_pure, goInt]
  have sl : ∀ (A : Option Addr) (n m : Nat), i.kd = 3 → vx = .slice A n m → OKv P c a o (.v (.int .i64 n)) := fun A n m hk e => by
    refine go _ n (hi.sl hk) fun w => ?_
    simp [Builtin.len_, ht, e, run_underlying (hi.sl hk), Sem.run_bind]
  unfold lenR
  split
  · rename_i q τ l
    cases hk : Nat.beq i.kd 3 with
    | false => trivial
    | true =>
      obtain ⟨A, cp, e2, _⟩ := hx
      exact sl A _ cp (Nat.eq_of_beq_eq_true hk) (by simpa using e2)
  · rename_i q τ l
    cases hk : Nat.beq i.kd 3 with
    | false => trivial
    | true =>
      obtain ⟨A, e2, _⟩ := hx
      exact sl A _ _ (Nat.eq_of_beq_eq_true hk) (by simpa using e2)
  · cases hk : Nat.beq i.kd 3 with
    | false => trivial
    | true =>
      obtain ⟨A, e2⟩ := hx
      exact sl A 0 0 (Nat.eq_of_beq_eq_true hk) (by simpa using e2)
  · rename_i j k n
    cases hk : Nat.beq i.kd 3 with
    | false => trivial
    | true =>
      obtain ⟨_, _, e2, A, m, hv, _⟩ := hx
      rw [hv] at e2
      exact sl A n m (Nat.eq_of_beq_eq_true hk) (by simpa using e2)
  · rename_i j k lo n
    cases hk : Nat.beq i.kd 3 with
    | false => trivial
    | true =>
      obtain ⟨_, _, A, m, A', _, _, _, e2⟩ := hx
      exact sl _ n _ (Nat.eq_of_beq_eq_true hk) (by simpa using e2)
  · rename_i j q n m τ
    cases hk : Nat.beq i.kd 3 with
    | false => trivial
    | true =>
      obtain ⟨_, b, _, e2⟩ := hx
      exact sl _ n m (Nat.eq_of_beq_eq_true hk) (by simpa using e2)
  · rename_i j xx oo k n hd
    cases hk : Nat.beq i.kd 3 with
    | false => trivial
    | true =>
      obtain ⟨_, e2, A, m, hv, _⟩ := hx
      rw [hv] at e2
      exact sl A n m (Nat.eq_of_beq_eq_true hk) (by simpa using e2)
  · rename_i j tk xk n hd
    cases hk : Nat.beq i.kd 3 with
    | false => trivial
    | true =>
      obtain ⟨_, e2, A, m, hv, _⟩ := hx
      rw [hv] at e2
      exact sl A n m (Nat.eq_of_beq_eq_true hk) (by simpa using e2)
  · rename_i A n m
    cases hk : Nat.beq i.kd 3 with
    | false => trivial
    | true => exact sl A n m (Nat.eq_of_beq_eq_true hk) (by simpa [sat] using hx)
  · rename_i s
    cases hk : Nat.beq i.kd 5 with
    | false => trivial
    | true =>
      have e : vx = .string s := by simpa [sat] using hx
      have hu := hi.tx (Nat.eq_of_beq_eq_true hk)
      refine go _ s.size hu fun w => ?_
      simp [Builtin.len_, ht, e, run_underlying hu, Sem.run_bind]
  · cases hk : Nat.beq i.kd 2 with
    | false => trivial
    | true =>
      have hu := hi.ar (Nat.eq_of_beq_eq_true hk)
      refine go _ i.ar hu fun w => ?_
      obtain ⟨cs, e, _⟩ := hx
      have e' : vx = .agg cs := by simpa using e
      simp [Builtin.len_, ht, e', run_underlying hu, Sem.run_bind]
  · trivial
theorem good_cap {cl : Call} (hop : o.op = .call cl) (hb : cl.callee = .builtin .cap) {t : TypeId} {ts : List TypeId} (hts : cl.argTypes.toList = t :: ts) {i : TI} (hi : TIok P t i) {x : AV} {vx : Value} (hargs : cl.args.map a.eval = #[vx]) (hx : sat x c [vx]) :
    GoodR P W0 X N c fr hp nx a o (capR i x) := by
  have ht : cl.argTypes[0]? = some t := by rw [← Array.getElem?_toList, hts]; rfl
  have sl : ∀ (A : Option Addr) (n m : Nat), i.kd = 3 → vx = .slice A n m → OKv P c a o (.v (.int .i64 m)) := fun A n m hk e => by
    refine ⟨.int .i64 m, ?_, rfl⟩
    refine run_builtin hop hb ?_
    rw [hargs]
    simp [builtin, Builtin.cap_, ht, e, run_underlying (hi.sl hk), Sem.run_bind, goInt, Result.andThen_ok, Sem.run_pure]
  unfold capR
  split
  · rename_i q τ l
    cases hk : Nat.beq i.kd 3 with
    | false => trivial
    | true =>
      obtain ⟨A, e2, _⟩ := hx
      exact sl A _ _ (Nat.eq_of_beq_eq_true hk) (by simpa using e2)
  · cases hk : Nat.beq i.kd 3 with
    | false => trivial
    | true =>
      obtain ⟨A, e2⟩ := hx
      exact sl A 0 0 (Nat.eq_of_beq_eq_true hk) (by simpa using e2)
  · rename_i A n m
    cases hk : Nat.beq i.kd 3 with
    | false => trivial
    | true => exact sl A n m (Nat.eq_of_beq_eq_true hk) (by simpa [sat] using hx)
  · trivial
theorem args_one {x : AV} {vs : Array Value} (h : sat (.cons x .nil) c vs.toList) : ∃ v, vs = #[v] ∧ sat x c [v] := by
  obtain ⟨v, r, e, h1, h2⟩ := h
  have : r = [] := h2
  subst this
  exact ⟨v, by rw [← Array.toList_inj]; exact e, h1⟩
theorem args_two {x y : AV} {vs : Array Value} (h : sat (.cons x (.cons y .nil)) c vs.toList) : ∃ v u, vs = #[v, u] ∧ sat x c [v] ∧ sat y c [u] := by
  obtain ⟨v, r, e, h1, q, r2, e2, h2, h3⟩ := h
  have : r2 = [] := h3
  subst this e2
  exact ⟨v, q, by rw [← Array.toList_inj]; exact e, h1, h2⟩
end
end Go.Proofs.Ytdhpjpidcbplbaa.Eng

/- ENGINE 2, 5C: rows that grow, rows that are made. -/
namespace Go.Proofs.Ytdhpjpidcbplbaa.Eng
open Go Go.RowKit
theorem castK_nat {α β : Type} (f : α → β) {t t' : Ty} {l : List (El t)} {no : α} {K : List (El t') → α} : castK t t' l (f no) (fun l => f (K l)) = f (castK t t' l no K) := by
  unfold castK
  split
  · rename_i h _
    subst h
    rfl
  · rfl
theorem decK_nat {α β : Type} (f : α → β) {no : α} : ∀ (t : Ty) (l : AV) (K : Bool → El t → α), decK t l (f no) (fun q x => f (K q x)) = f (decK t l no K)
  | .nil, l, K => by cases l <;> rfl
  | .int k r, l, K => by
    cases l with
    | cons h m =>
      cases h with
      | v z =>
        cases z with
        | int k' n =>
          simp only [decK]
          split
          · exact decK_nat f r m fun q x => K q (n, x)
          · rfl
        | _ => rfl
      | _ => rfl
    | _ => rfl
  | .bool r, l, K => by
    cases l with
    | cons h m =>
      cases h with
      | v z =>
        cases z with
        | bool n => exact decK_nat f r m fun q x => K q (n, x)
        | _ => rfl
      | _ => rfl
    | _ => rfl
  | .str r, l, K => by
    cases l with
    | cons h m =>
      cases h with
      | v z =>
        cases z with
        | string n => exact decK_nat f r m fun q x => K q (n, x)
        | _ => rfl
      | _ => rfl
    | _ => rfl
  | .sl a r, l, K => by
    cases l with
    | cons h m =>
      cases h with
      | rl q t l =>
        simp only [decK]
        rw [← castK_nat f]
        congr 1
        funext l
        exact decK_nat f r m fun q' x => K (q && q') (l, x)
      | rc q t l =>
        simp only [decK]
        rw [← castK_nat f]
        congr 1
        funext l
        exact decK_nat f r m fun q' x => K (q && q') (l, x)
      | em => exact decK_nat f r m fun q x => K q ([], x)
      | v z =>
        cases z with
        | slice A n cp =>
          cases A with
          | none =>
            simp only [decK]
            cases Nat.beq n 0 with
            | false => rfl
            | true => exact decK_nat f r m fun q x => K q ([], x)
          | some ad => rfl
        | _ => rfl
      | _ => rfl
    | _ => rfl
theorem decN_nat {α β : Type} (f : α → β) {no : α} (t : Ty) : ∀ (n : Nat) (l : AV) (K : Bool → List (El t) → α), decN t n l (f no) (fun q x => f (K q x)) = f (decN t n l no K)
  | 0, l, K => rfl
  | n + 1, l, K => by
    unfold decN
    split
    · rename_i a b _ _
      rw [← decK_nat f]
      congr 1
      funext q x
      exact decN_nat f t n b fun q' r => K (q && q') (x :: r)
    · rfl
def decO (t : Ty) (n : Nat) (l : AV) : Option (Bool × List (El t)) := decN t n l none fun q x => some (q, x)
theorem decN_eq {α : Type} (t : Ty) (n : Nat) (l : AV) (no : α) (K : Bool → List (El t) → α) : decN t n l no K = (match decO t n l with | some p => K p.1 p.2 | none => no) := by
  have := decN_nat (fun r : Option (Bool × List (El t)) => match r with | some p => K p.1 p.2 | none => no) (no := none) t n l fun q x => some (q, x)
  exact this
theorem decO_ok {c : Cx} {t : Ty} {n : Nat} {l : AV} {vs : List Value} (hs : sat l c vs) {q : Bool} {xs : List (El t)} (h : decO t n l = some (q, xs)) : xs.length = n ∧ n * tsz t ≤ vs.length ∧ ∀ j y, xs[j]? = some y → memE c.w c.O (qb q c.b0) t y ((vs.drop (j * tsz t)).take (tsz t)) := by
  refine decN_ok (c := c) (P := fun r : Option (Bool × List (El t)) => r = some (q, xs) → _) (no := none) (fun h => by cases h) t n l vs (fun q x => some (q, x)) hs (fun q' xs' h1 h2 h3 e => ?_) h
  injection e with e
  injection e with e1 e2
  subst e1 e2
  exact ⟨h1, h2, h3⟩
def flatC (c : Cx) (b : Nat) (t : Ty) (l : List (El t)) (news : List Value) : Prop :=
  news.length = l.length * tsz t ∧ ∀ j y, l[j]? = some y → memE c.w c.O b t y ((news.drop (j * tsz t)).take (tsz t))
theorem flatC_ones {c : Cx} {b : Nat} {t : Ty} {l : List (El t)} {news : List Value} (h : flatC c b t l news) : ∀ u ∈ news, u.oneCell' = true := by
  intro u hu
  obtain ⟨p, hp⟩ := List.getElem?_of_mem hu
  have hpl : p < news.length := (List.getElem?_eq_some_iff.1 hp).1
  rw [h.1] at hpl
  have hsz : 0 < tsz t := by
    rcases Nat.eq_zero_or_pos (tsz t) with h0 | h0
    · rw [h0, Nat.mul_zero] at hpl; omega
    · exact h0
  have hj : p / tsz t < l.length := by rw [Nat.div_lt_iff_lt_mul hsz]; exact hpl
  have hm := h.2 (p / tsz t) _ (List.getElem?_eq_getElem hj)
  refine (memE_len t _ _ hm).2 u ?_
  have hmod := Nat.mod_lt p hsz
  have hdiv := Nat.div_add_mod p (tsz t)
  rw [Nat.mul_comm] at hdiv
  refine List.mem_of_getElem? (i := p % tsz t) ?_
  rw [List.getElem?_take, if_pos hmod, List.getElem?_drop, hdiv]
  exact hp
theorem flatC_app {c : Cx} {b b' b'' : Nat} {t : Ty} {l l' : List (El t)} {xs news : List Value} (h : flatC c b t l xs) (h' : flatC c b' t l' news) (hb : b'' ≤ b) (hb' : b'' ≤ b') : flatC c b'' t (l ++ l') (xs ++ news) := by
  refine ⟨by simp [h.1, h'.1, Nat.add_mul], fun j y hj => ?_⟩
  by_cases hjl : j < l.length
  · rw [List.getElem?_append_left hjl] at hj
    have hm : (j + 1) * tsz t ≤ l.length * tsz t := Nat.mul_le_mul_right _ hjl
    rw [Nat.add_mul] at hm
    rw [List.drop_append_of_le_length (by rw [h.1]; omega), List.take_append_of_le_length (by simp [h.1]; omega)]
    exact memE_q hb (h.2 j y hj)
  · rw [List.getElem?_append_right (by omega)] at hj
    have hm : l.length * tsz t ≤ j * tsz t := Nat.mul_le_mul_right _ (by omega)
    have hd : (xs ++ news).drop (j * tsz t) = news.drop ((j - l.length) * tsz t) := by
      rw [List.drop_append, List.drop_eq_nil_of_le (by rw [h.1]; exact hm), List.nil_append, h.1, ← Nat.sub_mul]
    rw [hd]
    exact memE_q hb' (h'.2 _ y hj)
theorem flatC_keeps {c c' : Cx} {b b' : Nat} (k : Keeps c.w c.O b c'.w c'.O b') {t : Ty} {l : List (El t)} {news : List Value} (h : flatC c b t l news) : flatC c' b' t l news :=
  ⟨h.1, fun j y hj => memE_keeps k t y _ (h.2 j y hj)⟩
theorem memL_flat {c : Cx} {b : Nat} {t : Ty} {A : Option Addr} {l : List (El t)} (h : memL c.w c.O b (tsz t) (memE c.w c.O b t) A l) :
    ∃ news, flatC c b t l news ∧ (l ≠ [] → ∃ ad, A = some ad ∧ ∀ j u, news[j]? = some u → c.w.cell? (ad.add j) = some u) := by
  have key : ∀ n, n ≤ l.length → ∃ news : List Value, news.length = n * tsz t ∧ (∀ j y, j < n → l[j]? = some y → memE c.w c.O b t y ((news.drop (j * tsz t)).take (tsz t))) ∧ ∀ ad, A = some ad → ∀ j u, news[j]? = some u → c.w.cell? (ad.add j) = some u := by
    intro n
    induction n with
    | zero => exact fun _ => ⟨[], by simp, fun j y hj => absurd hj (Nat.not_lt_zero _), fun _ _ j u hu => by simp at hu⟩
    | succ n ih =>
      intro hn
      obtain ⟨news, h1, h2, h3⟩ := ih (by omega)
      obtain ⟨ad, hA, hsp, hO, hlt, hb0, cs, hc, hr, hE⟩ := h n _ (List.getElem?_eq_getElem (by omega))
      refine ⟨news ++ cs, by simp [h1, hc, Nat.add_mul], fun j y hj hy => ?_, fun ad' hA' j u hu => ?_⟩
      · by_cases hjn : j < n
        · have hm : (j + 1) * tsz t ≤ n * tsz t := Nat.mul_le_mul_right _ hjn
          rw [Nat.add_mul] at hm
          rw [List.drop_append_of_le_length (by rw [h1]; omega), List.take_append_of_le_length (by simp [h1]; omega)]
          exact h2 j y hjn hy
        · have hje : j = n := by omega
          subst hje
          rw [← h1, List.drop_left, ← hc, List.take_length]
          have : y = l[j]'(by omega) := by rw [List.getElem?_eq_getElem (by omega)] at hy; injection hy with hy; exact hy.symm
          rw [this]; exact hE
      · rw [hA] at hA'; injection hA' with hA'; subst hA'
        by_cases hjl : j < news.length
        · rw [List.getElem?_append_left hjl] at hu; exact h3 ad hA j u hu
        · rw [List.getElem?_append_right (by omega)] at hu
          have := hr _ u hu
          obtain ⟨bb, p, sp⟩ := ad
          simp only at hsp; subst hsp
          rw [Addr.add_mid]
          rw [show p + j = p + n * tsz t + (j - news.length) by omega]
          exact this
  obtain ⟨news, h1, h2, h3⟩ := key l.length (Nat.le_refl _)
  refine ⟨news, ⟨h1, fun j y hj => h2 j y (List.getElem?_eq_some_iff.1 hj).1 hj⟩, fun hne => ?_⟩
  obtain ⟨ad, hA, _⟩ := h 0 _ (List.getElem?_eq_getElem (List.length_pos_iff.2 hne))
  exact ⟨ad, hA, h3 ad hA⟩
def SrcV (c : Cx) (v : Value) (q : Bool) (t : Ty) (l : List (El t)) : Prop :=
  ∃ A m news, v = .slice A l.length m ∧ flatC c (qb q c.b0) t l news ∧ (l ≠ [] → ∃ ad, A = some ad ∧ ∀ j u, news[j]? = some u → c.w.cell? (ad.add j) = some u)
section
variable {P : Program} {E : Env} {W0 : World} {X : Bd} {N : Nat} {c : Cx} {fr : Fr} {hp : List AO} {nx : Nat} {a : Act} {o : Oper} {ρ : Operand → AV}
theorem SrcV.src {v : Value} {q : Bool} {t : Ty} {l : List (El t)} (h : SrcV c v q t l) {tx e' : TypeId} (hk : P.underlying tx = some (.slice e')) : ∃ news, flatC c (qb q c.b0) t l news ∧ Src P (tsz t) tx v l.length news c.w ∧ ((l = [] ∧ ∃ m, v = .slice none 0 m) ∨ ∃ ad m, v = .slice (some ad) l.length m ∧ ∀ j u, news[j]? = some u → c.w.cell? (ad.add j) = some u) := by
  obtain ⟨A, m, news, rfl, hf, hc⟩ := h
  refine ⟨news, hf, ?_⟩
  cases A with
  | none =>
    have hl : l = [] := Classical.byContradiction fun hne => by obtain ⟨ad, e, _⟩ := hc hne; cases e
    subst hl
    have : news = [] := List.eq_nil_of_length_eq_zero (by simpa using hf.1)
    subst this
    exact ⟨Src.ofNil c.w hk m, .inl ⟨rfl, m, rfl⟩⟩
  | some ad =>
    have hcell : ∀ j u, news[j]? = some u → c.w.cell? (ad.add j) = some u := by
      by_cases hl : l = []
      · subst hl
        have : news = [] := List.eq_nil_of_length_eq_zero (by simpa using hf.1)
        subst this
        intro j u hu; simp at hu
      · obtain ⟨ad', e, h⟩ := hc hl
        injection e with e; subst e; exact h
    exact ⟨Src.ofSlice c.w hk ad l.length m news hf.1 hcell (flatC_ones hf), .inr ⟨ad, m, rfl, hcell⟩⟩
theorem SrcV.cut {v : Value} {q : Bool} {t : Ty} {l : List (El t)} {A A' : Option Addr} {m m' lo n : Nat} (h : SrcV c v q t l) (hv : v = .slice A l.length m) (hlo : lo + n ≤ l.length) (hA : 0 < n → A' = A.map (·.add (lo * tsz t))) (hat : 0 < l.length → ∃ b, A = some ⟨b, 0, none⟩) : SrcV c (.slice A' n m') q t ((l.drop lo).take n) := by
  obtain ⟨A0, m0, news, e, hf, hc⟩ := h
  rw [hv] at e
  injection e with e _ _
  subst e
  have hlen : ((l.drop lo).take n).length = n := by simp; omega
  have hm : (lo + n) * tsz t ≤ l.length * tsz t := Nat.mul_le_mul_right _ hlo
  rw [Nat.add_mul] at hm
  refine ⟨A', m', (news.drop (lo * tsz t)).take (n * tsz t), by rw [hlen], ⟨?_, fun j y hj => ?_⟩, fun hne => ?_⟩
  · rw [hlen]; simp [hf.1]; omega
  · have hjn : j < n := by
      have := (List.getElem?_eq_some_iff.1 hj).1
      rw [hlen] at this; exact this
    rw [List.getElem?_take, if_pos hjn, List.getElem?_drop] at hj
    have hm2 : (j + 1) * tsz t ≤ n * tsz t := Nat.mul_le_mul_right _ hjn
    rw [Nat.add_mul] at hm2
    rw [List.drop_take, List.take_take, Nat.min_eq_left (by omega), List.drop_drop, show lo * tsz t + j * tsz t = (lo + j) * tsz t by rw [Nat.add_mul]]
    exact hf.2 _ y hj
  · have hn : 0 < n := by rcases Nat.eq_zero_or_pos n with h0 | h0; subst h0; simp at hne; exact h0
    obtain ⟨b, rfl⟩ := hat (by omega)
    refine ⟨⟨b, lo * tsz t, none⟩, by rw [hA hn]; simp [Addr.add_mid], fun j u hu => ?_⟩
    obtain ⟨ad, e, hcc⟩ := hc (by intro e; subst e; simp at hlo; omega)
    injection e with e; subst e
    rw [List.getElem?_take] at hu
    split at hu
    · rw [List.getElem?_drop] at hu
      have := hcc _ u hu
      rw [Addr.add_mid] at this ⊢
      rw [Nat.zero_add] at this
      exact this
    · cases hu
theorem row_src {j : Nat} {q : Bool} {t : Ty} {e : TypeId} {l : List (El t)} (h : rowAt c j q t e l) : SrcV c (c.val j) q t l ∧ ∃ A m, c.val j = .slice A l.length m := by
  obtain ⟨h0, h1, hq, xs, h2, h3, h4⟩ := h
  rcases h3 with ⟨e1, A, e2, e3⟩ | ⟨g, cap, cur, e1, e2, e3, e4, e5, e6, e7⟩
  · subst e1
    exact ⟨⟨A, 0, xs, by rw [e2]; rfl, ⟨h2, h4⟩, fun h => absurd rfl h⟩, A, 0, e2⟩
  · refine ⟨⟨_, cap, xs, e1, ⟨h2, h4⟩, fun _ => ⟨_, rfl, fun p u hu => ?_⟩⟩, _, _, e1⟩
    rw [Addr.add_mid, Nat.zero_add]
    rw [← e7, List.getElem?_take] at hu
    split at hu
    · rw [e3.cell]; simpa using hu
    · cases hu
theorem rl_src {q : Bool} {t : Ty} {l : List (El t)} {v : Value} (h : sat (.rl q t l) c [v]) : SrcV c v q t l := by
  obtain ⟨A, m, e, hm, hL⟩ := h
  obtain ⟨news, hf, hc⟩ := memL_flat hL
  exact ⟨A, m, news, by simpa using e, hf, hc⟩
theorem SrcV.keeps {c' : Cx} {v : Value} {q : Bool} {t : Ty} {l : List (El t)} (st : Step c c') (hw : c'.w = c.w) (h : SrcV c v q t l) : SrcV c' v q t l := by
  obtain ⟨A, m, news, e, hf, hc⟩ := h
  exact ⟨A, m, news, e, flatC_keeps (st.keeps id) hf, by rw [hw]; exact hc⟩
abbrev Fz (c c1 : Cx) (hp : List AO) (ows : List Nat) : Prop :=
  Step c c1 ∧ c1.w = c.w ∧ ∀ i ∈ ows, ∀ q t l, ((∃ e, getAO hp i = .row q t e l) ∨ getAO hp i = .fz q t l) → i < c.n → sat (.rl q t l) c1 [c.val i]
theorem srcK_ok {α : Type} {PP : α → Prop} (h : Gam W0 X N c fr hp nx a) {x : AV} {vx : Value} (hs : sat x c [vx]) (t : Ty) {no : α} (hno : PP no) {K : Bool → List (El t) → List Nat → α}
    (hK : ∀ q l ows, (∀ c1, Fz c c1 hp ows → SrcV c1 vx q t l) → PP (K q l ows)) : PP (srcK hp t x no K) := by
  unfold srcK
  split
  · refine castK_ok hno fun e => ?_
    subst e
    exact hK _ _ _ fun c1 ⟨st, hw, _⟩ => (rl_src hs).keeps st hw
  · rename_i q t' l
    refine castK_ok hno fun e => ?_
    subst e
    obtain ⟨A, e, hL⟩ := hs
    exact hK _ _ _ fun c1 ⟨st, hw, _⟩ => (rl_src (q := q) (t := t') (l := l) ⟨A, _, e, Nat.le_refl _, hL⟩).keeps st hw
  · rename_i j k n
    obtain ⟨hj, hn, e, _⟩ := hs
    have e' : vx = c.val j := by simpa using e
    split
    · rename_i q t' te l hg
      refine castK_ok hno fun e => ?_
      subst e
      have hrow : rowAt c j q t' te l := h.o j _ (getAO_at hg (by simp))
      exact hK _ _ _ fun c1 ⟨st, hw, _⟩ => by rw [e']; exact (row_src hrow).1.keeps st hw
    · rename_i q t' l hg
      refine castK_ok hno fun e => ?_
      subst e
      have hfz : osat (.fz q t' l) c j := h.o j _ (getAO_at hg (by simp))
      exact hK _ _ _ fun c1 ⟨st, hw, _⟩ => by rw [e']; exact (rl_src hfz.2.2.1).keeps st hw
    · exact hno
  · rename_i j k lo n
    obtain ⟨hj, hn, A, m, A', hv, hm, hA', e⟩ := hs
    have e' : vx = .slice A' n (m - lo) := by simpa using e
    have hat : ∀ n m, c.val j = .slice A n m → 0 < n → ∃ b, A = some ⟨b, 0, none⟩ := fun n m h => c.at0 j A n m h
    split
    · rename_i q t' te l hg
      cases hk : Nat.beq (tsz t') k with
      | false => exact hno
      | true =>
        have := Nat.eq_of_beq_eq_true hk
        subst this
        simp only [cond_true]
        refine castK_ok hno fun e => ?_
        subst e
        have hrow : rowAt c j q t' te l := h.o j _ (getAO_at hg (by simp))
        have hl := hrow.2.1
        show PP (K q ((l.drop lo).take n) [])
        refine hK _ _ _ fun c1 ⟨st, hw, _⟩ => ?_
        rw [e']
        exact SrcV.cut ((row_src hrow).1.keeps st hw) (by rw [hv, hl]) (by omega) hA' (fun hp => hat _ _ hv (by omega))
    · rename_i q t' l hg
      cases hk : Nat.beq (tsz t') k with
      | false => exact hno
      | true =>
        have := Nat.eq_of_beq_eq_true hk
        subst this
        simp only [cond_true]
        refine castK_ok hno fun e => ?_
        subst e
        have hfz : osat (.fz q t' l) c j := h.o j _ (getAO_at hg (by simp))
        have hl := hfz.2.1
        show PP (K q ((l.drop lo).take n) [])
        refine hK _ _ _ fun c1 ⟨st, hw, _⟩ => ?_
        rw [e']
        exact SrcV.cut ((rl_src hfz.2.2.1).keeps st hw) (by rw [hv, hl]) (by omega) hA' (fun hp => hat _ _ hv (by omega))
    · exact hno
  · rename_i n m
    cases hn : Nat.beq n 0 with
    | false => exact hno
    | true =>
      have := Nat.eq_of_beq_eq_true hn
      subst this
      have e' : vx = .slice none 0 m := by simpa [sat] using hs
      exact hK _ _ _ fun c1 _ => ⟨none, m, [], by rw [e']; rfl, ⟨by simp, fun j y hj => by simp at hj⟩, fun hne => absurd rfl hne⟩
  · obtain ⟨A, e⟩ := hs
    have e' : vx = .slice A 0 0 := by simpa using e
    exact hK _ _ _ fun c1 _ => ⟨A, 0, [], by rw [e']; rfl, ⟨by simp, fun j y hj => by simp at hj⟩, fun hne => absurd rfl hne⟩
  · rename_i i o n m te
    obtain ⟨hi, b, hl, e⟩ := hs
    have e' : vx = .slice (some ⟨b, o, none⟩) n m := by simpa using e
    split
    · rename_i cc hg
      split
      · rename_i p hp'
        obtain ⟨b', cs, ty, hl', hk, hh, hsc⟩ := h.o i _ (getAO_at hg (by simp))
        rw [hl] at hl'; injection hl' with hl'; subst hl'
        obtain ⟨hle, hsp⟩ := part_ok cc o _ hp' hsc
        rw [decN_eq]
        split
        · rename_i pr hpr
          obtain ⟨q, xs⟩ := pr
          refine hK q xs (owsOf p) fun c1 ⟨st, hw, hf⟩ => ?_
          have hsu := unow_ok h.ob st p (owsOf p) (fun i hi => hi) hf hsp
          obtain ⟨hx1, hx2, hx3⟩ := decO_ok hsu hpr
          refine ⟨some ⟨b, o, none⟩, m, (cs.toList.drop o).take (n * tsz t), by rw [e', hx1], ⟨?_, hx3⟩, fun _ => ⟨_, rfl, fun j u hu => ?_⟩⟩
          · rw [hx1]; simp at hx2 ⊢; omega
          · rw [hw, Addr.add_mid]
            rw [List.getElem?_take] at hu
            split at hu
            · simp [World.cell?, hh]
              simpa [List.getElem?_drop] using hu
            · cases hu
        · exact hno
      · exact hno
    · exact hno
  · exact hno
end
end Go.Proofs.Ytdhpjpidcbplbaa.Eng
