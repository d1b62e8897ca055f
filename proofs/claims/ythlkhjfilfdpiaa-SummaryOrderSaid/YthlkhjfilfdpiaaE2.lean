/- ENGINE, 2: what an abstract value says of a value in a world, and how that stays. -/
import Derived.Test.YthlkhjfilfdpiaaE1
namespace Go.Proofs.Ythlkhjfilfdpiaa.Eng
set_option linter.unusedVariables false
set_option linter.unusedSimpArgs false
open Go Go.RowKit

/-- The world, the own objects' blocks and slices, and the blocks that are written. -/
structure Cx where
  w : World
  key : Nat → Option Nat
  val : Nat → Value
  n : Nat
  O : Nat → Prop
  one : ∀ i, (val i).oneCell' = true

def Cx.bare (c : Cx) : Cx := ⟨c.w, c.key, c.val, 0, c.O, c.one⟩
/-- Another world. -/
def Cx.to (c : Cx) (w : World) : Cx := ⟨w, c.key, c.val, c.n, c.O, c.one⟩

def sat : AV → Cx → List Value → Prop
  | .u, _, vs => ∃ x, vs = [x]
  | .v x, _, vs => vs = [x]
  | .nil, _, vs => vs = []
  | .cons h t, c, vs => ∃ x r, vs = x :: r ∧ sat h c [x] ∧ sat t c r
  | .agg l, c, vs => ∃ cs, vs = [.agg cs] ∧ sat l c cs.toList
  | .tup l, c, vs => ∃ cs, vs = [.tuple cs] ∧ sat l c cs.toList
  | .fn f l, c, vs => ∃ cs, vs = [.func (.func f) #[] cs] ∧ sat l c cs.toList
  | .gd b x, c, vs => ∃ y, vs = [y] ∧ (b = true → sat x c [y]) ∧ (b = false → y = undef)
  | .ptr i o, c, vs => i < c.n ∧ ∃ b, c.key i = some b ∧ vs = [.pointer (some ⟨b, o, none⟩)]
  | .sc i o n m, c, vs => i < c.n ∧ ∃ b, c.key i = some b ∧ vs = [.slice (some ⟨b, o, none⟩) n m]
  | .rd k n g, c, vs => ∃ A m, vs = [.slice A n m] ∧ n ≤ m ∧ ∀ i, i < n → ∃ a : Addr, A = some a ∧ a.spot = none ∧ ¬ c.O a.block ∧ a.block < c.w.heap.size ∧
      ∀ j, j < k → ∃ x, c.w.cell? ⟨a.block, a.off + (i * k + j), none⟩ = some x ∧ sat (g i j) c.bare [x]
  | .rp k e o, c, vs => ∃ b q, vs = [.pointer (some ⟨b, q + o, none⟩)] ∧ ¬ c.O b ∧ b < c.w.heap.size ∧ ∀ j, j < k → ∃ x, c.w.cell? ⟨b, q + j, none⟩ = some x ∧ sat (e j) c.bare [x]
  | .ow i, c, vs => i < c.n ∧ vs = [c.val i]
  | .op i k x o, c, vs => i < c.n ∧ ∃ b, (c.val i).ownBlock = some b ∧ vs = [.pointer (some ⟨b, x * k + o, none⟩)]

/-- From c to c' what is known stays. -/
structure Step (c c' : Cx) : Prop where
  n : c.n ≤ c'.n
  key : ∀ i b, i < c.n → c.key i = some b → c'.key i = some b
  val : ∀ i, i < c.n → c'.val i = c.val i
  O : ∀ b, ¬ c.O b → b < c.w.heap.size → ¬ c'.O b
  sz : c.w.heap.size ≤ c'.w.heap.size
  w : ∀ b, ¬ c.O b → b < c.w.heap.size → c'.w.heap[b]? = c.w.heap[b]?

theorem Step.refl (c : Cx) : Step c c := ⟨Nat.le_refl _, fun _ _ _ h => h, fun _ _ => rfl, fun _ h _ => h, Nat.le_refl _, fun _ _ _ => rfl⟩
theorem Step.bare {c c' : Cx} (h : Step c c') : Step c.bare c'.bare :=
  ⟨Nat.le_refl _, fun _ _ h => absurd h (Nat.not_lt_zero _), fun _ h => absurd h (Nat.not_lt_zero _), h.O, h.sz, h.w⟩

theorem cell_same {w w' : World} {b o : Nat} (h : w'.heap[b]? = w.heap[b]?) : w'.cell? ⟨b, o, none⟩ = w.cell? ⟨b, o, none⟩ := by
  unfold World.cell?
  simp only [h]

theorem sat_step : ∀ (x : AV) {c c' : Cx} {vs : List Value}, Step c c' → sat x c vs → sat x c' vs
  | .u, _, _, _, _, h => h
  | .v _, _, _, _, _, h => h
  | .nil, _, _, _, _, h => h
  | .cons a b, _, _, _, s, ⟨x, r, e, h1, h2⟩ => ⟨x, r, e, sat_step a s h1, sat_step b s h2⟩
  | .agg l, _, _, _, s, ⟨cs, e, h⟩ => ⟨cs, e, sat_step l s h⟩
  | .tup l, _, _, _, s, ⟨cs, e, h⟩ => ⟨cs, e, sat_step l s h⟩
  | .fn _ l, _, _, _, s, ⟨cs, e, h⟩ => ⟨cs, e, sat_step l s h⟩
  | .gd _ x, _, _, _, s, ⟨y, e, h, h'⟩ => ⟨y, e, fun hb => sat_step x s (h hb), h'⟩
  | .ptr _ _, _, _, _, s, ⟨hi, b, hb, e⟩ => ⟨Nat.lt_of_lt_of_le hi s.n, b, s.key _ _ hi hb, e⟩
  | .sc _ _ _ _, _, _, _, s, ⟨hi, b, hb, e⟩ => ⟨Nat.lt_of_lt_of_le hi s.n, b, s.key _ _ hi hb, e⟩
  | .rd k n g, _, _, _, s, ⟨A, m, e, hm, h⟩ => ⟨A, m, e, hm, fun i hi => by
      obtain ⟨a, ha, hsp, hO, hb, hc⟩ := h i hi
      refine ⟨a, ha, hsp, s.O _ hO hb, Nat.lt_of_lt_of_le hb s.sz, fun j hj => ?_⟩
      obtain ⟨x, hx, hs⟩ := hc j hj
      exact ⟨x, (cell_same (s.w _ hO hb)).trans hx, sat_step (g i j) s.bare hs⟩⟩
  | .rp k f o, _, _, _, s, ⟨b, q, e, hO, hb, h⟩ => ⟨b, q, e, s.O _ hO hb, Nat.lt_of_lt_of_le hb s.sz, fun j hj => by
      obtain ⟨x, hx, hs⟩ := h j hj
      exact ⟨x, (cell_same (s.w _ hO hb)).trans hx, sat_step (f j) s.bare hs⟩⟩
  | .ow _, _, _, _, s, ⟨hi, e⟩ => ⟨Nat.lt_of_lt_of_le hi s.n, by rw [s.val _ hi]; exact e⟩
  | .op _ _ _ _, _, _, _, s, ⟨hi, b, hb, e⟩ => ⟨Nat.lt_of_lt_of_le hi s.n, b, by rw [s.val _ hi]; exact hb, e⟩

/-- What a bare context says, the whole one says. -/
theorem sat_bare : ∀ (x : AV) {c : Cx} {vs : List Value}, sat x c.bare vs → sat x c vs
  | .u, _, _, h => h
  | .v _, _, _, h => h
  | .nil, _, _, h => h
  | .cons a b, _, _, ⟨x, r, e, h1, h2⟩ => ⟨x, r, e, sat_bare a h1, sat_bare b h2⟩
  | .agg l, _, _, ⟨cs, e, h⟩ => ⟨cs, e, sat_bare l h⟩
  | .tup l, _, _, ⟨cs, e, h⟩ => ⟨cs, e, sat_bare l h⟩
  | .fn _ l, _, _, ⟨cs, e, h⟩ => ⟨cs, e, sat_bare l h⟩
  | .gd _ x, _, _, ⟨y, e, h, h'⟩ => ⟨y, e, fun hb => sat_bare x (h hb), h'⟩
  | .ptr _ _, _, _, ⟨hi, _⟩ => absurd hi (Nat.not_lt_zero _)
  | .sc _ _ _ _, _, _, ⟨hi, _⟩ => absurd hi (Nat.not_lt_zero _)
  | .rd _ _ _, _, _, h => h
  | .rp _ _ _, _, _, h => h
  | .ow _, _, _, ⟨hi, _⟩ => absurd hi (Nat.not_lt_zero _)
  | .op _ _ _ _, _, _, ⟨hi, _⟩ => absurd hi (Nat.not_lt_zero _)

/-- An own object. -/
def osat (o : AO) (c : Cx) (i : Nat) : Prop :=
  match o with
  | .cells l => ∃ b cs t, c.key i = some b ∧ c.w.heap[b]? = some (.cells cs t (0, 0)) ∧ sat l c cs.toList
  | .row e k n g => c.key i = (c.val i).ownBlock ∧ ∃ cs : List Value, c.w.ownsRow 0 e k (c.val i) n cs ∧ ∀ a, a < n → ∀ j, j < k → ∃ x, cs[a * k + j]? = some x ∧ sat (g a j) c.bare [x]
  | .fz k n g => c.key i = none ∧ sat (.rd k n g) c [c.val i]
  | .dead => True
  | .void => c.key i = none

/-- Blocks that were there and may be written; blocks that were shut from the beginning. -/
structure Bd where
  x : Nat → Prop
  y : Nat → Prop

/-- The frame, the own objects, and all that was there before. -/
structure Gam (W0 : World) (X : Bd) (N : Nat) (c : Cx) (fr : Fr) (hp : List AO) (nx : Nat) (a : Act) : Prop where
  d : a.defers = []
  z : a.tmps.size = N
  f : ∀ i, sat (look fr i) c [a.tmps.getD i undef]
  nl : nx = hp.length
  nc : c.n = hp.length
  o : ∀ i o, hp[i]? = some o → osat o c i
  dj : ∀ i j b, i < c.n → j < c.n → c.key i = some b → c.key j = some b → i = j
  kb : ∀ i b, i < c.n → c.key i = some b → c.O b ∧ b < c.w.heap.size ∧ (b < W0.heap.size → X.x b)
  ol : ∀ b, c.O b → b < c.w.heap.size
  oo : ∀ b, X.y b → c.O b
  os : c.w.os = W0.os
  tp : c.w.tape = W0.tape
  ou : c.w.output = W0.output
  sz : W0.heap.size ≤ c.w.heap.size
  kp : ∀ b, b < W0.heap.size → ¬ X.x b → c.w.heap[b]? = W0.heap[b]?

theorem beq_ne {i j : Nat} (h : ¬ i = j) : Nat.beq i j = false := by
  cases hb : Nat.beq i j with
  | false => rfl
  | true => exact absurd (Nat.eq_of_beq_eq_true hb) h

theorem getD_set (l : Array Value) (i j : Nat) (x : Value) (h : i < l.size) : (l.setIfInBounds i x).getD j undef = if i = j then x else l.getD j undef := by
  by_cases hij : i = j
  · subst hij; simp [Array.getD, h]
  · simp [Array.getD, hij]
    by_cases hj : j < l.size
    · simp [hj, hij]
    · simp [hj]

section
variable {W0 : World} {X : Bd} {N : Nat} {c : Cx} {fr : Fr} {hp : List AO} {nx : Nat} {a : Act}

/-- A value into its slot. -/
theorem Gam.put (h : Gam W0 X N c fr hp nx a) {v : AV} {x : Value} {d : Nat} (hd : d < N) (hv : sat v c [x]) : Gam W0 X N c ((d, v) :: fr) hp nx (a.put (some d) x) :=
  { h with
    d := h.d
    z := by simp [Act.put, h.z]
    f := fun i => by
      have hs : d < a.tmps.size := by rw [h.z]; exact hd
      simp only [Act.put, getD_set _ _ _ _ hs, look]
      by_cases hi : d = i
      · subst hi; simpa using hv
      · have : Nat.beq d i = false := beq_ne hi
        simp only [this, cond_false, if_neg hi]
        exact h.f i }

/-- The world goes on: new blocks alone. -/
theorem Gam.below (h : Gam W0 X N c fr hp nx a) {w' : World} (hb : Below c.w.heap.size c.w w') : Gam W0 X N (c.to w') fr hp nx a := by
  have st : Step c (c.to w') := ⟨Nat.le_refl _, fun _ _ _ h => h, fun _ _ => rfl, fun _ h _ => h, hb.size, fun b _ hlt => hb.block b hlt⟩
  refine ⟨h.d, h.z, fun i => sat_step _ st (h.f i), h.nl, h.nc, fun i o ho => ?_, h.dj, fun i b hi hk => ⟨(h.kb i b hi hk).1, Nat.lt_of_lt_of_le (h.kb i b hi hk).2.1 hb.size, (h.kb i b hi hk).2.2⟩,
    fun b hO => Nat.lt_of_lt_of_le (h.ol b hO) hb.size, h.oo, hb.os.trans h.os, hb.tape.trans h.tp, hb.output.trans h.ou, Nat.le_trans h.sz hb.size, fun b hlt hX => (hb.block b (Nat.lt_of_lt_of_le hlt h.sz)).trans (h.kp b hlt hX)⟩
  have hi : i < c.n := by rw [h.nc]; exact (List.getElem?_eq_some_iff.1 ho).1
  have := h.o i o ho
  cases o with
  | cells l =>
    obtain ⟨b, cs, t, hk, hh, hs⟩ := this
    exact ⟨b, cs, t, hk, (hb.block b (h.kb i b hi hk).2.1).trans hh, sat_step _ st hs⟩
  | row e k n g =>
    obtain ⟨hk, cs, how, hs⟩ := this
    refine ⟨hk, cs, ?_, fun a ha j hj => ?_⟩
    · obtain ⟨h1, h2⟩ := how
      refine ⟨h1, ?_⟩
      rcases h2 with h2 | ⟨q, cap, cur, hv, hg, hh, r⟩
      · exact .inl h2
      · refine .inr ⟨q, cap, cur, hv, hg, ?_, r⟩
        have : q < c.w.heap.size := (Array.getElem?_eq_some_iff.1 hh).1
        exact (hb.block q this).trans hh
    · obtain ⟨x, hx, hsx⟩ := hs a ha j hj
      exact ⟨x, hx, sat_step _ st.bare hsx⟩
  | fz k n g => exact ⟨this.1, sat_step _ st this.2⟩
  | dead => trivial
  | void => exact this
end

theorem force_ok : ∀ (x : AV) {K : AV → Prop}, force x K → K x
  | .u, _, h => h
  | .v x, _, h => by cases x <;> first | exact h | exact h.elim
  | .nil, _, h => h
  | .cons a b, _, h => force_ok b (force_ok a h)
  | .agg l, _, h => force_ok l h
  | .tup l, _, h => force_ok l h
  | .fn _ l, _, h => force_ok l h
  | .gd _ x, _, h => force_ok x h
  | .ptr _ _, _, h => h
  | .sc _ _ _ _, _, h => h
  | .rd _ _ _, _, h => h
  | .rp _ _ _, _, h => h
  | .ow _, _, h => h
  | .op _ _ _ _, _, h => h
theorem forceO_ok (o : AO) {K : AO → Prop} (h : forceO o K) : K o := by
  cases o with
  | cells l => exact force_ok l h
  | _ => exact h
theorem snocK_ok : ∀ (l : List AO) {x : AO} {K : List AO → Prop}, snocK l x K → K (l ++ [x])
  | [], _, _, h => h
  | o :: r, x, K, h => snocK_ok r (K := fun r' => K (o :: r')) h
theorem setK_ok : ∀ (l : List AO) {n : Nat} {x : AO} {K : List AO → Prop}, setK l n x K → n < l.length ∧ K (l.set n x)
  | [], _, _, _, h => h.elim
  | _ :: r, 0, _, _, h => ⟨Nat.succ_pos _, h⟩
  | o :: r, n + 1, _, K, h => by
    have := setK_ok r (K := fun r' => K (o :: r')) h
    exact ⟨Nat.succ_lt_succ this.1, this.2⟩
theorem putK_ok {N : Nat} {fr : Fr} {d : Option Nat} {v : AV} {K : Fr → Prop} (h : putK N fr d v K) : (∃ i, d = some i ∧ i < N ∧ K ((i, v) :: fr)) ∨ (d = none ∧ K fr) := by
  unfold putK at h
  cases d with
  | none => exact .inr ⟨rfl, h⟩
  | some i =>
    refine .inl ⟨i, rfl, ?_⟩
    simp only at h
    cases hb : Nat.blt i N with
    | true => simp only [hb, cond_true] at h; exact ⟨by simpa [Nat.blt_eq] using hb, h⟩
    | false => simp only [hb, cond_false] at h

end Go.Proofs.Ythlkhjfilfdpiaa.Eng
