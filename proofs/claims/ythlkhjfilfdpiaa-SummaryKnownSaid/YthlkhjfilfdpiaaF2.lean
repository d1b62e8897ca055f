/- ENGINE 2, 2: what an abstract value says of a value in a world, and how that stays. -/
import Derived.Test.YthlkhjfilfdpiaaF1
import Derived.Deep.MidRow
import Derived.Laws.AppendOwn
namespace Go.Proofs.Ythlkhjfilfdpiaa.Eng
set_option linter.unusedVariables false
set_option linter.unusedSimpArgs false
open Go Go.RowKit

/-- The world, the own objects' blocks and slices, and the blocks that are written. -/
structure Cx where
  w : World
  key : Nat → Option Nat     -- the block that own object i holds
  loc : Nat → Option Nat     -- where its cells are
  val : Nat → Value          -- the slice that it is
  len : Nat → Nat
  n : Nat
  O : Nat → Prop
  b0 : Nat                   -- from here on memory is new
  one : ∀ i, (val i).oneCell' = true
  at0 : ∀ i A n m, val i = .slice A n m → 0 < n → ∃ b, A = some ⟨b, 0, none⟩

def Cx.bare (c : Cx) : Cx := { c with n := 0 }
/-- Another world. -/
def Cx.to (c : Cx) (w : World) : Cx := { c with w := w }

def qb (q : Bool) (b : Nat) : Nat := if q then b else 0
theorem qb_le (q : Bool) (b : Nat) : qb q b ≤ b := by unfold qb; split <;> omega
theorem qb_mono {q q' : Bool} {b b' : Nat} (hq : q' = true → q = true) (hb : b' ≤ b) : qb q' b' ≤ qb q b := by
  unfold qb
  cases q' with
  | false => simp
  | true => simp [hq rfl]; exact hb

/-- A list of elements, in memory that is only read. -/
def memL {α : Type} (w : World) (O : Nat → Prop) (b : Nat) (sz : Nat) (R : α → List Value → Prop) (A : Option Addr) (l : List α) : Prop :=
  ∀ i y, l[i]? = some y → ∃ ad : Addr, A = some ad ∧ ad.spot = none ∧ ¬ O ad.block ∧ ad.block < w.heap.size ∧ b ≤ ad.block ∧ ∃ cs : List Value, cs.length = sz ∧ w.rangeAt ad.block (ad.off + i * sz) cs ∧ R y cs
def memE (w : World) (O : Nat → Prop) (b : Nat) : (t : Ty) → El t → List Value → Prop
  | .nil, _, vs => vs = []
  | .int k r, x, vs => ∃ vs', vs = .int k x.1 :: vs' ∧ memE w O b r x.2 vs'
  | .bool r, x, vs => ∃ vs', vs = .bool x.1 :: vs' ∧ memE w O b r x.2 vs'
  | .str r, x, vs => ∃ vs', vs = .string x.1 :: vs' ∧ memE w O b r x.2 vs'
  | .sl a r, x, vs => ∃ A m vs', vs = .slice A x.1.length m :: vs' ∧ x.1.length ≤ m ∧ memL w O b (tsz a) (memE w O b a) A x.1 ∧ memE w O b r x.2 vs'

def sat : AV → Cx → List Value → Prop
  | .u, _, vs => ∃ x, vs = [x]
  | .v x, _, vs => vs = [x]
  | .nil, _, vs => vs = []
  | .cons h t, c, vs => ∃ x r, vs = x :: r ∧ sat h c [x] ∧ sat t c r
  | .agg l, c, vs => ∃ cs, vs = [.agg cs] ∧ sat l c cs.toList
  | .tup l, c, vs => ∃ cs, vs = [.tuple cs] ∧ sat l c cs.toList
  | .fn f l, c, vs => ∃ cs, vs = [.func (.func f) #[] cs] ∧ sat l c cs.toList
  | .gd b x, c, vs => ∃ y, vs = [y] ∧ (b = true → sat x c [y]) ∧ (b = false → y = undef)
  | .ptr i o, c, vs => i < c.n ∧ ∃ b, c.loc i = some b ∧ vs = [.pointer (some ⟨b, o, none⟩)]
  | .sc i o n m _, c, vs => i < c.n ∧ ∃ b, c.loc i = some b ∧ vs = [.slice (some ⟨b, o, none⟩) n m]
  | .rl q t l, c, vs => ∃ A m, vs = [.slice A l.length m] ∧ l.length ≤ m ∧ memL c.w c.O (qb q c.b0) (tsz t) (memE c.w c.O (qb q c.b0) t) A l
  | .rc q t l, c, vs => ∃ A, vs = [.slice A l.length l.length] ∧ memL c.w c.O (qb q c.b0) (tsz t) (memE c.w c.O (qb q c.b0) t) A l
  | .em, c, vs => ∃ A, vs = [.slice A 0 0]
  | .rp k e o, c, vs => ∃ b q, vs = [.pointer (some ⟨b, q + o, none⟩)] ∧ ¬ c.O b ∧ b < c.w.heap.size ∧ ∀ j, j < k → ∃ x, c.w.cell? ⟨b, q + j, none⟩ = some x ∧ sat (e j) c.bare [x]
  | .ow i k n, c, vs => i < c.n ∧ n = c.len i ∧ vs = [c.val i] ∧ ∃ A m, c.val i = .slice A n m ∧ n ≤ m
  | .ws i k lo n, c, vs => i < c.n ∧ lo + n ≤ c.len i ∧ ∃ A m A', c.val i = .slice A (c.len i) m ∧ c.len i ≤ m ∧ (0 < n → A' = A.map (·.add (lo * k))) ∧ vs = [.slice A' n (m - lo)]
  | .op i k x o, c, vs => i < c.n ∧ x < c.len i ∧ ∃ b, (c.val i).ownBlock = some b ∧ vs = [.pointer (some ⟨b, x * k + o, none⟩)]

/-- From c to c' what is known stays. -/
structure Step (c c' : Cx) : Prop where
  n : c.n ≤ c'.n
  loc : ∀ i b, i < c.n → c.loc i = some b → c'.loc i = some b
  val : ∀ i, i < c.n → c.val i ≠ .bool false → c'.val i = c.val i ∧ c'.len i = c.len i
  O : ∀ b, ¬ c.O b → b < c.w.heap.size → ¬ c'.O b
  sz : c.w.heap.size ≤ c'.w.heap.size
  w : ∀ b, ¬ c.O b → b < c.w.heap.size → c'.w.heap[b]? = c.w.heap[b]?
  b0 : c'.b0 ≤ c.b0

theorem Step.refl (c : Cx) : Step c c := ⟨Nat.le_refl _, fun _ _ _ h => h, fun _ _ _ => ⟨rfl, rfl⟩, fun _ h _ => h, Nat.le_refl _, fun _ _ _ => rfl, Nat.le_refl _⟩
theorem Step.bare {c c' : Cx} (h : Step c c') : Step c.bare c'.bare :=
  ⟨Nat.le_refl _, fun _ _ h => absurd h (Nat.not_lt_zero _), fun _ h => absurd h (Nat.not_lt_zero _), h.O, h.sz, h.w, h.b0⟩

theorem cell_same {w w' : World} {b o : Nat} (h : w'.heap[b]? = w.heap[b]?) : w'.cell? ⟨b, o, none⟩ = w.cell? ⟨b, o, none⟩ := by
  unfold World.cell?
  simp only [h]
theorem range_same {w w' : World} {b o : Nat} {cs : List Value} (h : w'.heap[b]? = w.heap[b]?) (hr : w.rangeAt b o cs) : w'.rangeAt b o cs :=
  fun q v hq => (cell_same h).trans (hr q v hq)

/-- Read-only memory stays. -/
structure Keeps (w : World) (O : Nat → Prop) (b : Nat) (w' : World) (O' : Nat → Prop) (b' : Nat) : Prop where
  hO : ∀ k, ¬ O k → k < w.heap.size → b ≤ k → ¬ O' k
  hs : w.heap.size ≤ w'.heap.size
  hw : ∀ k, ¬ O k → k < w.heap.size → b ≤ k → w'.heap[k]? = w.heap[k]?
  hb : ∀ k, ¬ O k → k < w.heap.size → b ≤ k → b' ≤ k
theorem memL_keeps {α : Type} {w w' : World} {O O' : Nat → Prop} {b b' sz : Nat} {R R' : α → List Value → Prop} {A : Option Addr} {l : List α} (h : Keeps w O b w' O' b') (hR : ∀ y ∈ l, ∀ cs, R y cs → R' y cs) (hm : memL w O b sz R A l) : memL w' O' b' sz R' A l := by
  intro i y hy
  obtain ⟨ad, h1, h2, h3, h4, h5, cs, h6, h7, h8⟩ := hm i y hy
  exact ⟨ad, h1, h2, h.hO _ h3 h4 h5, Nat.lt_of_lt_of_le h4 h.hs, h.hb _ h3 h4 h5, cs, h6, range_same (h.hw _ h3 h4 h5) h7, hR y (List.mem_of_getElem? hy) cs h8⟩
theorem memE_keeps {w w' : World} {O O' : Nat → Prop} {b b' : Nat} (h : Keeps w O b w' O' b') : ∀ (t : Ty) (x : El t) (vs : List Value), memE w O b t x vs → memE w' O' b' t x vs
  | .nil, _, _, hm => hm
  | .int k r, x, vs, ⟨vs', e, hm⟩ => ⟨vs', e, memE_keeps h r x.2 vs' hm⟩
  | .bool r, x, vs, ⟨vs', e, hm⟩ => ⟨vs', e, memE_keeps h r x.2 vs' hm⟩
  | .str r, x, vs, ⟨vs', e, hm⟩ => ⟨vs', e, memE_keeps h r x.2 vs' hm⟩
  | .sl a r, x, vs, ⟨A, m, vs', e, hl, hL, hm⟩ => ⟨A, m, vs', e, hl, memL_keeps h (fun y _ cs hy => memE_keeps h a y cs hy) hL, memE_keeps h r x.2 vs' hm⟩
theorem memR_keeps {w w' : World} {O O' : Nat → Prop} {b b' : Nat} (h : Keeps w O b w' O' b') {t : Ty} {A : Option Addr} {l : List (El t)} (hm : memL w O b (tsz t) (memE w O b t) A l) : memL w' O' b' (tsz t) (memE w' O' b' t) A l :=
  memL_keeps h (fun y _ cs hy => memE_keeps h t y cs hy) hm
theorem Step.keeps {c c' : Cx} (h : Step c c') {q q' : Bool} (hq : q' = true → q = true) : Keeps c.w c.O (qb q c.b0) c'.w c'.O (qb q' c'.b0) :=
  ⟨fun k h1 h2 _ => h.O k h1 h2, h.sz, fun k h1 h2 _ => h.w k h1 h2, fun k _ _ h3 => Nat.le_trans (qb_mono hq h.b0) h3⟩

theorem val_ne {c : Cx} {i : Nat} {A : Option Addr} {n m : Nat} (h : c.val i = .slice A n m) : c.val i ≠ .bool false := by rw [h]; simp
theorem ownBlock_ne {v : Value} {b : Nat} (h : v.ownBlock = some b) : v ≠ .bool false := by
  intro e; subst e; simp [Value.ownBlock] at h

theorem sat_step : ∀ (x : AV) {c c' : Cx} {vs : List Value}, Step c c' → sat x c vs → sat x c' vs
  | .u, _, _, _, _, h => h
  | .v _, _, _, _, _, h => h
  | .nil, _, _, _, _, h => h
  | .cons a b, _, _, _, s, ⟨x, r, e, h1, h2⟩ => ⟨x, r, e, sat_step a s h1, sat_step b s h2⟩
  | .agg l, _, _, _, s, ⟨cs, e, h⟩ => ⟨cs, e, sat_step l s h⟩
  | .tup l, _, _, _, s, ⟨cs, e, h⟩ => ⟨cs, e, sat_step l s h⟩
  | .fn _ l, _, _, _, s, ⟨cs, e, h⟩ => ⟨cs, e, sat_step l s h⟩
  | .gd _ x, _, _, _, s, ⟨y, e, h, h'⟩ => ⟨y, e, fun hb => sat_step x s (h hb), h'⟩
  | .ptr _ _, _, _, _, s, ⟨hi, b, hb, e⟩ => ⟨Nat.lt_of_lt_of_le hi s.n, b, s.loc _ _ hi hb, e⟩
  | .sc _ _ _ _ _, _, _, _, s, ⟨hi, b, hb, e⟩ => ⟨Nat.lt_of_lt_of_le hi s.n, b, s.loc _ _ hi hb, e⟩
  | .rl q t l, _, _, _, s, ⟨A, m, e, hm, h⟩ => ⟨A, m, e, hm, memR_keeps (s.keeps id) h⟩
  | .rc q t l, _, _, _, s, ⟨A, e, h⟩ => ⟨A, e, memR_keeps (s.keeps id) h⟩
  | .em, _, _, _, _, h => h
  | .rp k f o, _, _, _, s, ⟨b, q, e, hO, hb, h⟩ => ⟨b, q, e, s.O _ hO hb, Nat.lt_of_lt_of_le hb s.sz, fun j hj => by
      obtain ⟨x, hx, hs⟩ := h j hj
      exact ⟨x, (cell_same (s.w _ hO hb)).trans hx, sat_step (f j) s.bare hs⟩⟩
  | .ow i _ n, c, c', _, s, ⟨hi, hn, e, A, m, hA, hm⟩ => by
      obtain ⟨h1, h2⟩ := s.val i hi (val_ne hA)
      exact ⟨Nat.lt_of_lt_of_le hi s.n, by rw [h2]; exact hn, by rw [h1]; exact e, A, m, by rw [h1]; exact hA, hm⟩
  | .ws i k lo n, c, c', _, s, ⟨hi, hn, A, m, A', hA, hm, e⟩ => by
      obtain ⟨h1, h2⟩ := s.val i hi (val_ne hA)
      exact ⟨Nat.lt_of_lt_of_le hi s.n, by rw [h2]; exact hn, A, m, A', by rw [h1, h2]; exact hA, by rw [h2]; exact hm, e⟩
  | .op i _ _ _, _, _, _, s, ⟨hi, hx, b, hb, e⟩ => by
      obtain ⟨h1, h2⟩ := s.val i hi (ownBlock_ne hb)
      exact ⟨Nat.lt_of_lt_of_le hi s.n, by rw [h2]; exact hx, b, by rw [h1]; exact hb, e⟩

/-- What a bare context says, the whole one says. -/
theorem sat_bare : ∀ (x : AV) {c : Cx} {vs : List Value}, sat x c.bare vs → sat x c vs
  | .u, _, _, h => h
  | .v _, _, _, h => h
  | .nil, _, _, h => h
  | .cons a b, _, _, ⟨x, r, e, h1, h2⟩ => ⟨x, r, e, sat_bare a h1, sat_bare b h2⟩
  | .agg l, _, _, ⟨cs, e, h⟩ => ⟨cs, e, sat_bare l h⟩
  | .tup l, _, _, ⟨cs, e, h⟩ => ⟨cs, e, sat_bare l h⟩
  | .fn _ l, _, _, ⟨cs, e, h⟩ => ⟨cs, e, sat_bare l h⟩
  | .gd _ x, _, _, ⟨y, e, h, h'⟩ => ⟨y, e, fun hb => sat_bare x (h hb), h'⟩
  | .ptr _ _, _, _, ⟨hi, _⟩ => absurd hi (Nat.not_lt_zero _)
  | .sc _ _ _ _ _, _, _, ⟨hi, _⟩ => absurd hi (Nat.not_lt_zero _)
  | .rl _ _ _, _, _, h => h
  | .rc _ _ _, _, _, h => h
  | .em, _, _, h => h
  | .rp _ _ _, _, _, h => h
  | .ow _ _ _, _, _, ⟨hi, _⟩ => absurd hi (Nat.not_lt_zero _)
  | .ws _ _ _ _, _, _, ⟨hi, _⟩ => absurd hi (Nat.not_lt_zero _)
  | .op _ _ _ _, _, _, ⟨hi, _⟩ => absurd hi (Nat.not_lt_zero _)

/-- A block of cells that are not shut. -/
def mkOk (mk : Nat × Nat) (n : Nat) : Prop := mk = (0, 0) ∨ n ≤ mk.1
def rowHeap (w : World) (g : Nat) (cur : Array Value) (e : TypeId) : Prop := ∃ mk, w.heap[g]? = some (.cells cur e mk) ∧ mkOk mk cur.size
theorem rowHeap.same {w w' : World} {g : Nat} {cur : Array Value} {e : TypeId} (h : rowHeap w g cur e) (hw : w'.heap[g]? = w.heap[g]?) : rowHeap w' g cur e := by
  obtain ⟨mk, h1, h2⟩ := h; exact ⟨mk, hw.trans h1, h2⟩
theorem rowHeap.of {w : World} {g : Nat} {cur : Array Value} {e : TypeId} (h : w.heap[g]? = some (.cells cur e (0, 0))) : rowHeap w g cur e := ⟨_, h, .inl rfl⟩
theorem rowHeap.cell {w : World} {g : Nat} {cur : Array Value} {e : TypeId} (h : rowHeap w g cur e) (j : Nat) : w.cell? ⟨g, j, none⟩ = cur[j]? := by
  obtain ⟨mk, h1, _⟩ := h; simp [World.cell?, h1]
theorem rowHeap.inj {w : World} {g : Nat} {cur cur' : Array Value} {e e' : TypeId} (h : rowHeap w g cur e) (h' : rowHeap w g cur' e') : cur = cur' := by
  obtain ⟨mk, h1, _⟩ := h
  obtain ⟨mk', h1', _⟩ := h'
  rw [h1] at h1'; injection h1' with h1'; injection h1'
theorem rowHeap.set {w : World} {g : Nat} {cur : Array Value} {e : TypeId} (h : rowHeap w g cur e) (cs : Array Value) (hs : cs.size = cur.size) : rowHeap (w.setRow g cs) g cs e := by
  obtain ⟨mk, h1, h2⟩ := h; exact ⟨mk, setRow_heap w g cur cs e mk h1, by rw [hs]; exact h2⟩
theorem rowHeap.shut {w : World} {g : Nat} {cur : Array Value} {e : TypeId} (h : rowHeap w g cur e) {j : Nat} (hj : j < cur.size) : w.frozen? ⟨g, j, none⟩ = false := by
  obtain ⟨⟨lo, hi⟩, h1, h2⟩ := h
  simp only [World.frozen?, h1]
  rcases h2 with h2 | h2
  · injection h2 with e1 e2; subst e1 e2; simp
  · simp only at h2; simp; omega
theorem run_storeCells_mk (P : Program) (g o : Nat) (t : TypeId) : ∀ (vs : List Value) (i : Nat) (cur : Array Value) (w : World), rowHeap w g cur t → o + i + vs.length ≤ cur.size → (∀ v ∈ vs, v.oneCell' = true) →
    (storeCells ⟨g, o, none⟩ vs i).run P w = .ok () (w.setRow g (cur.toList.take (o + i) ++ vs ++ cur.toList.drop (o + i + vs.length)).toArray)
  | [], i, cur, w, hg, _, _ => by
    simp only [storeCells, List.append_nil, List.length_nil, Nat.add_zero, List.take_append_drop, Array.toArray_toList]
    obtain ⟨mk, h1, _⟩ := hg
    rw [setRow_self w g cur t mk h1]
    rfl
  | v :: rest, i, cur, w, hg, hl, h1 => by
    have hi : o + i < cur.size := by simp at hl; omega
    have hadd : (⟨g, o, none⟩ : Addr).add i = ⟨g, o + i, none⟩ := by unfold Addr.add; split <;> simp_all
    have hcell : w.cell? ⟨g, o + i, none⟩ = some cur[o + i] := by rw [hg.cell]; simp [hi]
    have hfro : w.frozen? ⟨g, o + i, none⟩ = false := hg.shut hi
    have hst : (store ((⟨g, o, none⟩ : Addr).add i) v).run P w = .ok () (w.setRow g (cur.setIfInBounds (o + i) v)) := by
      obtain ⟨mk, hg1, _⟩ := hg
      rw [hadd, Go.run_store P w _ v _ (h1 v (by simp)), hcell]
      simp [hfro, setCell_eq_setRow w g (o + i) cur t mk v hg1]
    have ih := run_storeCells_mk P g o t rest (i + 1) (cur.setIfInBounds (o + i) v) (w.setRow g (cur.setIfInBounds (o + i) v)) (hg.set _ (by simp)) (by simp at hl ⊢; omega) (fun x hx => h1 x (by simp [hx]))
    simp only [storeCells, Sem.run_bind, hst, Result.andThen_ok, ih, setRow_setRow]
    congr 3
    have e := list_seg_step cur.toList (o + i) v rest (by simp at hl ⊢; omega)
    simpa [Array.toList_setIfInBounds, Nat.add_assoc] using e

/-- The row that own object i is. -/
def rowAt (c : Cx) (i : Nat) (q : Bool) (t : Ty) (e : TypeId) (l : List (El t)) : Prop :=
  0 < tsz t ∧ l.length = c.len i ∧ (q = true → ∀ g, c.key i = some g → c.b0 ≤ g) ∧ ∃ xs : List Value, xs.length = l.length * tsz t ∧
    ((l = [] ∧ ∃ A, c.val i = .slice A 0 0 ∧ c.key i = none) ∨
      ∃ g cap cur, c.val i = .slice (some ⟨g, 0, none⟩) l.length cap ∧ c.key i = some g ∧ rowHeap c.w g cur e ∧ l.length ≤ cap ∧ cap ≤ maxLen ∧ cur.size = cap * tsz t ∧ cur.toList.take (l.length * tsz t) = xs) ∧
    ∀ j y, l[j]? = some y → memE c.w c.O (qb q c.b0) t y ((xs.drop (j * tsz t)).take (tsz t))

/-- An own object. -/
def osat (o : AO) (c : Cx) (i : Nat) : Prop :=
  match o with
  | .cells l => ∃ b cs t, c.loc i = some b ∧ c.key i = some b ∧ c.w.heap[b]? = some (.cells cs t (0, 0)) ∧ sat l c cs.toList
  | .row q t e l => rowAt c i q t e l
  | .fz q t l => c.key i = none ∧ l.length = c.len i ∧ sat (.rl q t l) c [c.val i] ∧ ∀ ad n m, c.val i = .slice (some ad) n m → 0 < n → ad.off = 0
  | .dead => c.key i = none
  | .void => c.key i = none ∧ c.loc i = none ∧ c.val i = .bool false

/-- An own object that nothing happens to. -/
theorem osat_keep {o : AO} {c c' : Cx} {i : Nat} (st : Step c c') (hi : i < c.n) (hk : c'.key i = c.key i) (hl : c.loc i = none → c'.loc i = none) (hv : c'.val i = c.val i ∧ c'.len i = c.len i) (hw : ∀ b, c.key i = some b → c'.w.heap[b]? = c.w.heap[b]?) (h : osat o c i) : osat o c' i := by
  cases o with
  | cells l =>
    obtain ⟨b, cs, t, h1, h2, h3, h4⟩ := h
    exact ⟨b, cs, t, st.loc i b hi h1, hk.trans h2, (hw b h2).trans h3, sat_step _ st h4⟩
  | row q t e l =>
    obtain ⟨h0, h1, hq, xs, h2, h3, h4⟩ := h
    refine ⟨h0, by rw [hv.2]; exact h1, fun hqt g hg => Nat.le_trans st.b0 (hq hqt g (hk ▸ hg)), xs, h2, ?_, fun j y hy => memE_keeps (st.keeps id) t y _ (h4 j y hy)⟩
    rcases h3 with ⟨e1, A, e2, e3⟩ | ⟨g, cap, cur, e1, e2, e3, r⟩
    · exact .inl ⟨e1, A, by rw [hv.1]; exact e2, by rw [hk]; exact e3⟩
    · exact .inr ⟨g, cap, cur, by rw [hv.1]; exact e1, by rw [hk]; exact e2, e3.same (hw g e2), r⟩
  | fz q t l => exact ⟨hk.trans h.1, by rw [hv.2]; exact h.2.1, by rw [hv.1]; exact sat_step (.rl q t l) st h.2.2.1, by rw [hv.1]; exact h.2.2.2⟩
  | dead => exact hk.trans h
  | void => exact ⟨hk.trans h.1, hl h.2.1, by rw [hv.1]; exact h.2.2⟩

/-- Blocks that were there and may be written; blocks that were shut from the beginning; those that were shut or lent. -/
structure Bd where
  x : Nat → Prop
  y : Nat → Prop
  z : Nat → Prop
  m : Nat                        -- so many objects are lent: where they are
  loc : Nat → Option Nat
  val : Nat → Value
  len : Nat → Nat
  b0 : Nat

/-- The own objects. -/
structure Obs (c : Cx) (hp : List AO) : Prop where
  nc : c.n = hp.length
  o : ∀ i o, hp[i]? = some o → osat o c i
  dj : ∀ i j b, i < c.n → j < c.n → c.key i = some b → c.key j = some b → i = j
  kb : ∀ i b, i < c.n → c.key i = some b → c.O b ∧ b < c.w.heap.size
  ol : ∀ b, c.O b → b < c.w.heap.size
  bz : c.b0 ≤ c.w.heap.size

/-- The frame, the own objects, and all that was there before. -/
structure Gam (W0 : World) (X : Bd) (N : Nat) (c : Cx) (fr : Fr) (hp : List AO) (nx : Nat) (a : Act) : Prop where
  d : a.defers = []
  z : a.tmps.size = N
  f : ∀ i, sat (look fr i) c [a.tmps.getD i undef]
  nl : nx = hp.length
  ob : Obs c hp
  kx : ∀ i b, i < c.n → c.key i = some b → b < W0.heap.size → X.x b
  oo : ∀ b, X.y b → c.O b
  oz : ∀ b, c.O b → b < W0.heap.size → X.z b
  xy : ∀ b, X.y b → b < W0.heap.size ∧ ¬ X.x b
  b0 : c.b0 ≤ W0.heap.size
  st : ∀ i, i < X.m → i < c.n ∧ (∀ b, X.loc i = some b → c.loc i = some b) ∧ (X.val i ≠ .bool false → c.val i = X.val i ∧ c.len i = X.len i)
  bb : c.b0 = X.b0
  os : c.w.os = W0.os
  tp : c.w.tape = W0.tape
  ou : c.w.output = W0.output
  sz : W0.heap.size ≤ c.w.heap.size
  kp : ∀ b, b < W0.heap.size → ¬ X.x b → c.w.heap[b]? = W0.heap[b]?
  dr : W0.drawn ≤ c.w.drawn

/-- Below, and no draws are taken back. -/
structure BelowD (B : Nat) (w w' : World) : Prop extends Below B w w' where
  dr : w.drawn ≤ w'.drawn

theorem beq_ne {i j : Nat} (h : ¬ i = j) : Nat.beq i j = false := by
  cases hb : Nat.beq i j with
  | false => rfl
  | true => exact absurd (Nat.eq_of_beq_eq_true hb) h

theorem getD_set (l : Array Value) (i j : Nat) (x : Value) (h : i < l.size) : (l.setIfInBounds i x).getD j undef = if i = j then x else l.getD j undef := by
  by_cases hij : i = j
  · subst hij; simp [Array.getD, h]
  · simp [Array.getD, hij]
    by_cases hj : j < l.size
    · simp [hj, hij]
    · simp [hj]

section
variable {W0 : World} {X : Bd} {N : Nat} {c : Cx} {fr : Fr} {hp : List AO} {nx : Nat} {a : Act}

theorem Gam.nc (h : Gam W0 X N c fr hp nx a) : c.n = hp.length := h.ob.nc
theorem Gam.o (h : Gam W0 X N c fr hp nx a) : ∀ i o, hp[i]? = some o → osat o c i := h.ob.o
theorem Gam.ol (h : Gam W0 X N c fr hp nx a) : ∀ b, c.O b → b < c.w.heap.size := h.ob.ol

/-- A value into its slot. -/
theorem Gam.put (h : Gam W0 X N c fr hp nx a) {v : AV} {x : Value} {d : Nat} (hd : d < N) (hv : sat v c [x]) : Gam W0 X N c ((d, v) :: fr) hp nx (a.put (some d) x) :=
  { h with
    d := h.d
    z := by simp [Act.put, h.z]
    f := fun i => by
      have hs : d < a.tmps.size := by rw [h.z]; exact hd
      simp only [Act.put, getD_set _ _ _ _ hs, look]
      by_cases hi : d = i
      · subst hi; simpa using hv
      · have : Nat.beq d i = false := beq_ne hi
        simp only [this, cond_false, if_neg hi]
        exact h.f i }

/-- The own objects turned, the frame as it was. -/
theorem Gam.turn (h : Gam W0 X N c fr hp nx a) {c' : Cx} {hp' : List AO} (st : Step c c') (ob : Obs c' hp') (kx : ∀ i b, i < c'.n → c'.key i = some b → b < W0.heap.size → X.x b)
    (oo : ∀ b, X.y b → c'.O b) (oz : ∀ b, c'.O b → b < W0.heap.size → X.z b) (os : c'.w.os = c.w.os) (tp : c'.w.tape = c.w.tape) (ou : c'.w.output = c.w.output)
    (kp : ∀ b, b < W0.heap.size → ¬ X.x b → c'.w.heap[b]? = c.w.heap[b]?) (dr : c.w.drawn ≤ c'.w.drawn) (hb0 : c'.b0 = c.b0 := by rfl) : Gam W0 X N c' fr hp' hp'.length a :=
  ⟨h.d, h.z, fun i => sat_step _ st (h.f i), rfl, ob, kx, oo, oz, h.xy, Nat.le_trans st.b0 h.b0, fun i hi => by
      obtain ⟨h1, h2, h3⟩ := h.st i hi
      refine ⟨Nat.lt_of_lt_of_le h1 st.n, fun b hb => st.loc i b h1 (h2 b hb), fun hv => ?_⟩
      obtain ⟨q1, q2⟩ := h3 hv
      obtain ⟨q3, q4⟩ := st.val i h1 (by rw [q1]; exact hv)
      exact ⟨q3.trans q1, q4.trans q2⟩, hb0.trans h.bb, os.trans h.os, tp.trans h.tp, ou.trans h.ou, Nat.le_trans h.sz st.sz, fun b hb hX => (kp b hb hX).trans (h.kp b hb hX), Nat.le_trans h.dr dr⟩

/-- The world goes on: new blocks alone. -/
theorem Gam.below (h : Gam W0 X N c fr hp nx a) {w' : World} (hb : BelowD c.w.heap.size c.w w') : Gam W0 X N (c.to w') fr hp nx a := by
  have st : Step c (c.to w') := ⟨Nat.le_refl _, fun _ _ _ h => h, fun _ _ _ => ⟨rfl, rfl⟩, fun _ h _ => h, hb.size, fun b _ hlt => hb.block b hlt, Nat.le_refl _⟩
  have hg := h.turn (c' := c.to w') (hp' := hp) st ⟨h.nc, fun i o ho => by
      have hi : i < c.n := by rw [h.nc]; exact (List.getElem?_eq_some_iff.1 ho).1
      exact osat_keep st hi rfl (fun h => h) ⟨rfl, rfl⟩ (fun b hk => hb.block b (h.ob.kb i b hi hk).2) (h.o i o ho), h.ob.dj,
      fun i b hi hk => ⟨(h.ob.kb i b hi hk).1, Nat.lt_of_lt_of_le (h.ob.kb i b hi hk).2 hb.size⟩, fun b hO => Nat.lt_of_lt_of_le (h.ol b hO) hb.size, Nat.le_trans h.ob.bz hb.size⟩
    h.kx h.oo h.oz hb.os hb.tape hb.output (fun b hlt _ => hb.block b (Nat.lt_of_lt_of_le hlt h.sz)) hb.dr
  rw [h.nl]
  exact hg
end

theorem force_ok : ∀ (x : AV) {K : AV → Prop}, force x K → K x
  | .u, _, h => h
  | .v x, _, h => by cases x <;> first | exact h | exact h.elim
  | .nil, _, h => h
  | .cons a b, _, h => force_ok b (force_ok a h)
  | .agg l, _, h => force_ok l h
  | .tup l, _, h => force_ok l h
  | .fn _ l, _, h => force_ok l h
  | .gd _ x, _, h => force_ok x h
  | .ptr _ _, _, h => h
  | .sc _ _ _ _ _, _, h => h
  | .rl _ _ _, _, h => h
  | .rc _ _ _, _, h => h
  | .em, _, h => h
  | .rp _ _ _, _, h => h
  | .ow _ _ _, _, h => h
  | .ws _ _ _ _, _, h => h
  | .op _ _ _ _, _, h => h
theorem forceO_ok (o : AO) {K : AO → Prop} (h : forceO o K) : K o := by
  cases o with
  | cells l => exact force_ok l h
  | _ => exact h
theorem forceH_ok : ∀ (l : List AO) {K : List AO → Prop}, forceH l K → K l
  | [], _, h => h
  | o :: r, K, h => forceH_ok r (K := fun r => K (o :: r)) (forceO_ok o h)
theorem snocK_ok : ∀ (l : List AO) {x : AO} {K : List AO → Prop}, snocK l x K → K (l ++ [x])
  | [], _, _, h => h
  | o :: r, x, K, h => snocK_ok r (K := fun r' => K (o :: r')) h
theorem setK_ok : ∀ (l : List AO) {n : Nat} {x : AO} {K : List AO → Prop}, setK l n x K → n < l.length ∧ K (l.set n x)
  | [], _, _, _, h => h.elim
  | _ :: r, 0, _, _, h => ⟨Nat.succ_pos _, h⟩
  | o :: r, n + 1, _, K, h => by
    have := setK_ok r (K := fun r' => K (o :: r')) h
    exact ⟨Nat.succ_lt_succ this.1, this.2⟩
theorem putK_ok {N : Nat} {fr : Fr} {d : Option Nat} {v : AV} {K : Fr → Prop} (h : putK N fr d v K) : (∃ i, d = some i ∧ i < N ∧ K ((i, v) :: fr)) ∨ (d = none ∧ K fr) := by
  unfold putK at h
  cases d with
  | none => exact .inr ⟨rfl, h⟩
  | some i =>
    refine .inl ⟨i, rfl, ?_⟩
    simp only at h
    cases hb : Nat.blt i N with
    | true => simp only [hb, cond_true] at h; exact ⟨by simpa [Nat.blt_eq] using hb, h⟩
    | false => simp only [hb, cond_false] at h
theorem lenO_eq : ∀ (l : List AO), lenO l = l.length
  | [] => rfl
  | _ :: r => by simp [lenO, lenO_eq r]
theorem snoc_eq : ∀ (l : List AO) (x : AO), snoc l x = l ++ [x]
  | [], _ => rfl
  | o :: r, x => by simp [snoc, snoc_eq r x]
theorem joinO_eq : ∀ (l m : List AO), joinO l m = l ++ m
  | [], _ => rfl
  | o :: r, m => by simp [joinO, joinO_eq r m]
theorem mapO_eq (f : Nat → Nat) : ∀ (l : List AO), mapO f l = l.map (renO f)
  | [] => rfl
  | o :: r => by simp [mapO, mapO_eq f r]
theorem setAO_eq : ∀ (l : List AO) (i : Nat) (x : AO), setAO l i x = l.set i x
  | [], _, _ => rfl
  | _ :: r, 0, _ => rfl
  | o :: r, n + 1, x => by simp [setAO, setAO_eq r n x]
theorem getAO_eq : ∀ (l : List AO) (x : Nat), getAO l x = (l[x]?).getD .dead
  | [], _ => rfl
  | o :: r, 0 => rfl
  | o :: r, x + 1 => by simpa [getAO] using getAO_eq r x
theorem lenN_eq : ∀ (l : List Nat), lenN l = l.length
  | [] => rfl
  | _ :: r => by simp [lenN, lenN_eq r]

end Go.Proofs.Ythlkhjfilfdpiaa.Eng
