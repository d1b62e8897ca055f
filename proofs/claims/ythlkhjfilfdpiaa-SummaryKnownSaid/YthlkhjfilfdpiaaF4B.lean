/- ENGINE 2, 4B: boxes, loads, stores. -/
import Derived.Test.YthlkhjfilfdpiaaF4
import Derived.Test.YthlkhjfilfdpiaaEQ
import Derived.Laws.CopyRow
namespace Go.Proofs.Ythlkhjfilfdpiaa.Eng
set_option linter.unusedVariables false
set_option linter.unusedSimpArgs false
open Go Go.RowKit

theorem run_box (P : Program) (w : World) (t : TypeId) (x : Value) : (Instr.box t x).run P w = .ok (.pointer (some ⟨w.heap.size, 0, none⟩)) (w.alloc (.cells x.cells t)) := rfl
theorem alloc_new (w : World) (o : Obj) : (w.alloc o).heap[w.heap.size]? = some o := by
  show (w.heap.push _)[w.heap.size]? = _
  simp
theorem alloc_old (w : World) (o : Obj) {b : Nat} (hb : b < w.heap.size) : (w.alloc o).heap[b]? = w.heap[b]? := Below.heap_alloc w _ b hb
theorem alloc_size (w : World) (o : Obj) : (w.alloc o).heap.size = w.heap.size + 1 := World.size_alloc _ _

section
variable {P : Program} {W0 : World} {X : Bd} {N : Nat} {c : Cx} {fr : Fr} {hp : List AO} {nx : Nat} {a : Act} {o : Oper} {ρ : Operand → AV}

/-- One own block more, at a place. -/
theorem Gam.cells (h : Gam W0 X N c fr hp nx a) {ix n' : Nat} {hp' : List AO} {l : AV} {cs : Array Value} {t : TypeId} (hs : sat l c cs.toList)
    (hix : (ix = c.n ∧ n' = c.n + 1 ∧ hp' = hp ++ [.cells l]) ∨ (hp[ix]? = some .void ∧ n' = c.n ∧ hp' = hp.set ix (.cells l))) :
    ∃ c', c'.w = c.w.alloc (.cells cs t) ∧ Gam W0 X N c' fr hp' hp'.length a ∧ sat (.ptr ix 0) c' [.pointer (some ⟨c.w.heap.size, 0, none⟩)] := by
  have key := h.add (w' := c.w.alloc (.cells cs t)) (ix := ix) (n' := n') (ln := 0) (k := some c.w.heap.size) (lo := some c.w.heap.size) (v := .bool true) (hv := at0_bool true) (ob := .cells l) (fun _ => False) hix (fun b hb => hb.elim)
    (by rw [alloc_size]; omega) (fun b hb _ => alloc_old _ _ hb) rfl rfl rfl (fun g hg => by injection hg with hg; subst hg; rw [alloc_size]; omega)
  have hin : ix < n' := by
    rcases hix with ⟨e1, e2, _⟩ | ⟨e1, e2, _⟩
    · omega
    · have := (List.getElem?_eq_some_iff.1 e1).1; have := h.nc; omega
  have hvoid : ix < c.n → c.key ix = none ∧ c.loc ix = none ∧ c.val ix = .bool false := fun hlt => by
    rcases hix with ⟨e, _⟩ | ⟨e, _⟩
    · omega
    · exact h.o ix _ e
  have st : Step c (c.add (c.w.alloc (.cells cs t)) ix (some c.w.heap.size) (some c.w.heap.size) (.bool true) 0 n' (at0_bool true)) := by
    refine ⟨by rcases hix with ⟨_, e, _⟩ | ⟨_, e, _⟩ <;> (show c.n ≤ n'; omega), fun i b hi hl => (updF_ne _ _ (fun e => by rw [e, (hvoid (e ▸ hi)).2.1] at hl; cases hl)).trans hl, fun i hi hne => ?_, fun b hO hlt h' => ?_, by show _ ≤ (c.w.alloc (.cells cs t)).heap.size; rw [alloc_size]; omega, fun b _ hb => alloc_old _ _ hb, Nat.le_refl _⟩
    · have : i ≠ ix := fun e => hne (by rw [e]; exact (hvoid (e ▸ hi)).2.2)
      exact ⟨updF_ne _ _ this, updF_ne _ _ this⟩
    · rcases h' with h' | h'
      · exact hO h'
      · injection h' with h'; omega
  obtain ⟨hG, _⟩ := key ⟨c.w.heap.size, cs, t, updF_at _ _ _, updF_at _ _ _, alloc_new _ _, sat_step _ st hs⟩
  exact ⟨_, rfl, hG, hin, c.w.heap.size, updF_at _ _ _, rfl⟩

theorem good_move (x : Operand) (hop : o.op = .move x ∨ o.op = .assign x) (hx : sat (ρ x) c [a.eval x]) : OKv P c a o (ρ x) := by
  refine ⟨a.eval x, ?_, hx⟩
  rcases hop with hop | hop <;> (unfold execOp; rw [hop]; rfl)

theorem nx_len (h : Gam W0 X N c fr hp nx a) (ob : AO) : nx + 1 = (hp ++ [ob]).length := by rw [h.nl]; simp
theorem nx_set (h : Gam W0 X N c fr hp nx a) (i : Nat) (ob : AO) : nx = (hp.set i ob).length := by rw [h.nl]; simp
theorem nx_n (h : Gam W0 X N c fr hp nx a) : nx = c.n := by rw [h.nl, h.nc]

theorem good_box (h : Gam W0 X N c fr hp nx a) (t : TypeId) (x : Operand) (hop : o.op = .box t x) (hx : sat (ρ x) c [a.eval x]) :
    GoodR P W0 X N c fr hp nx a o (lift (cellsOf (ρ x)) fun l => .new (.ptr nx 0) (.cells l)) := by
  refine lift_good fun l hl => ?_
  obtain ⟨c', hw, hg, hs⟩ := h.cells (t := t) (cellsOf_ok hl hx).1 (.inl ⟨nx_n h, rfl, rfl⟩)
  refine ⟨_, c', ?_, by rw [nx_len h]; exact hg, hs⟩
  unfold execOp; rw [hop]
  simp only [Sem.run_bind, run_box, Result.andThen_ok, Sem.run_pure, hw]

theorem run_alloc {t : TypeId} {i : TI} (hi : TIok P t i) {z : Value} (hz : i.ze = some z) (w : World) : (Instr.alloc t true (.tuple #[])).run P w = .ok (.pointer (some ⟨w.heap.size, 0, none⟩)) (w.alloc (.cells z.cells t)) := by
  have hze := hi.ze z hz
  cases hq : P.info? t with
  | none => simp [hq] at hze
  | some ti =>
    simp [hq] at hze
    simp [Sem.run_bind, Instr.alloc, zeroValue, typeInfo, hq, hze, Result.andThen_ok, Sem.run_pure]
    rfl

theorem good_alloc (h : Gam W0 X N c fr hp nx a) (t : TypeId) (hop : o.op = .alloc t) (i : TI) (hi : TIok P t i) (z : Value) (hz : i.ze = some z) :
    GoodR P W0 X N c fr hp nx a o (.new (.ptr nx 0) (.cells (ofValues z.cells.toList))) := by
  obtain ⟨c', hw, hg, hs⟩ := h.cells (t := t) (l := ofValues z.cells.toList) (cs := z.cells) (ofValues_ok c _) (.inl ⟨nx_n h, rfl, rfl⟩)
  refine ⟨_, c', ?_, by rw [nx_len h]; exact hg, hs⟩
  unfold execOp; rw [hop]
  simp only [Sem.run_bind, run_alloc hi hz, Result.andThen_ok, Sem.run_pure, hw]

/-! ### Loads -/
/-- Cells that are there, read as a value of a type. -/
theorem run_load (w : World) (b o : Nat) (t : TypeId) (i : TI) (hi : TIok P t i) (cs : List Value) (hcs : w.rangeAt b o cs) (hl : cs.length = i.sz) (hag : i.ag = true) :
    (Instr.loadAt t (.pointer (some ⟨b, o, none⟩))).run P w = .ok (.agg cs.toArray) w := by
  have hu := hi.ag
  cases hq : P.underlying t with
  | none => simp [hq] at hu
  | some d => exact run_loadAt_mid w b o t cs d hcs hq (by simpa [hq, hag] using hu) (by rw [hi.sz, hl])
theorem run_load1 (w : World) (b o : Nat) (t : TypeId) (i : TI) (hi : TIok P t i) (x : Value) (hx : w.cell? ⟨b, o, none⟩ = some x) (hag : i.ag = false) :
    (Instr.loadAt t (.pointer (some ⟨b, o, none⟩))).run P w = .ok x w := by
  have hu := hi.ag
  cases hq : P.underlying t with
  | none => simp [hq] at hu
  | some d =>
    have hagg : (isAgg t).run P w = .ok false w := by
      unfold isAgg
      rw [Sem.run_bind, run_underlying hq w]
      have : d.isRow = false := by simpa [hq, hag] using hu
      cases d <;> simp_all
    simp [Instr.loadAt, Instr.sureAddr, Sem.run_bind, loadVar, hagg, load, Sem.run, hx]

theorem getAO_at : ∀ {l : List AO} {j : Nat} {m : AO}, getAO l j = m → m ≠ .dead → l[j]? = some m := by
  intro l j m h hm
  rw [getAO_eq] at h
  cases hq : l[j]? with
  | none => rw [hq] at h; exact absurd h.symm hm
  | some x => rw [hq] at h; simp at h; rw [h]

/-- A part of cells that are there. -/
theorem load_part {b base : Nat} {cs : List Value} {l : AV} (hr : c.w.rangeAt b base cs) (hs : sat l c cs) (t : TypeId) (i : TI) (hi : TIok P t i) (off : Nat) :
    ∀ v, partR i l off = .ok v → ∃ y, (Instr.loadAt t (.pointer (some ⟨b, base + off, none⟩))).run P c.w = .ok y c.w ∧ sat v c [y] := by
  intro v hv
  unfold partR at hv
  cases hag : i.ag with
  | true =>
    simp only [hag, cond_true] at hv
    cases hp : part l off i.sz with
    | none => simp [hp, lift] at hv
    | some p =>
      simp [hp, lift] at hv
      subst hv
      obtain ⟨hle, hsp⟩ := part_ok l off i.sz hp hs
      refine ⟨.agg ((cs.drop off).take i.sz).toArray, ?_, ⟨_, rfl, by simpa using hsp⟩⟩
      refine run_load c.w b (base + off) t i hi _ (fun q v hq => ?_) (by simp; omega) hag
      rw [List.getElem?_take] at hq
      split at hq
      · rw [Nat.add_assoc]; exact hr (off + q) v (by simpa [List.getElem?_drop] using hq)
      · cases hq
  | false =>
    simp only [hag, cond_false] at hv
    cases hp : (part l off 1).bind (nth · 0) with
    | none => simp [hp, lift] at hv
    | some p =>
      simp [hp, lift] at hv
      subst hv
      simp only [Option.bind_eq_some_iff] at hp
      obtain ⟨q, hq1, hq2⟩ := hp
      obtain ⟨hle, hsp⟩ := part_ok l off 1 hq1 hs
      obtain ⟨y, hy, hsy⟩ := nth_ok q 0 hq2 hsp
      refine ⟨y, run_load1 c.w b (base + off) t i hi y ?_ hag, hsy⟩
      rw [List.getElem?_take] at hy
      exact hr off y (by simpa [List.getElem?_drop] using hy)
theorem partR_ok {i : TI} {l : AV} {off : Nat} : (∃ v, partR i l off = .ok v) ∨ partR i l off = .no := by
  unfold partR
  cases i.ag with
  | true =>
    simp only [cond_true]
    cases part l off i.sz with
    | none => exact .inr rfl
    | some p => exact .inl ⟨_, rfl⟩
  | false =>
    simp only [cond_false]
    cases (part l off 1).bind (nth · 0) with
    | none => exact .inr rfl
    | some p => exact .inl ⟨_, rfl⟩

/-- An element of an own row. -/
theorem row_elem {j : Nat} {q : Bool} {t : Ty} {e : TypeId} {l : List (El t)} (h : rowAt c j q t e l) {x b : Nat} (hx : x < c.len j) (hb : (c.val j).ownBlock = some b) :
    ∃ cap cur, c.val j = .slice (some ⟨b, 0, none⟩) l.length cap ∧ c.key j = some b ∧ rowHeap c.w b cur e ∧ l.length ≤ cap ∧ cap ≤ maxLen ∧ cur.size = cap * tsz t ∧ x < l.length ∧
      ∃ cs : List Value, cs = (cur.toList.drop (x * tsz t)).take (tsz t) ∧ cs.length = tsz t ∧ c.w.rangeAt b (x * tsz t) cs ∧ memE c.w c.O (qb q c.b0) t (getE t l x) cs := by
  obtain ⟨h0, h1, hq, xs, h2, h3, h4⟩ := h
  have hxl : x < l.length := by omega
  rcases h3 with ⟨e1, A, e2, e3⟩ | ⟨g, cap, cur, e1, e2, e3, e4, e5, e6, e7⟩
  · subst e1; simp at hxl
  · have hg : g = b := by rw [e1] at hb; simpa [Value.ownBlock] using hb
    subst hg
    have hm : (x + 1) * tsz t ≤ l.length * tsz t := Nat.mul_le_mul_right _ hxl
    have hm2 : l.length * tsz t ≤ cap * tsz t := Nat.mul_le_mul_right _ e4
    rw [Nat.add_mul] at hm
    have hcs : (xs.drop (x * tsz t)).take (tsz t) = (cur.toList.drop (x * tsz t)).take (tsz t) := by
      rw [← e7, List.drop_take, List.take_take, Nat.min_eq_left (by omega)]
    refine ⟨cap, cur, e1, e2, e3, e4, e5, e6, hxl, _, rfl, by simp; omega, fun p v hp => ?_, ?_⟩
    · rw [List.getElem?_take] at hp
      split at hp
      · rw [e3.cell]
        simpa [List.getElem?_drop] using hp
      · cases hp
    · rw [← hcs]; exact h4 x _ (getE_ok hxl)

/-- An element of a slice that is only read, by an own one that became so. -/
theorem fz_elem {j : Nat} {q : Bool} {t : Ty} {l : List (El t)} (h : osat (.fz q t l) c j) {x b : Nat} (hx : x < c.len j) (hb : (c.val j).ownBlock = some b) :
    ∃ ad : Addr, ad.block = b ∧ ad.spot = none ∧ ∃ cs : List Value, cs.length = tsz t ∧ c.w.rangeAt b (ad.off + x * tsz t) cs ∧ memE c.w c.O (qb q c.b0) t (getE t l x) cs ∧ ad.off = 0 := by
  obtain ⟨h1, h2, ⟨A, m, e, hm, hL⟩, hz⟩ := h
  obtain ⟨ad, rfl, hsp, hO, hlt, hb0, cs, hc, hr, hE⟩ := hL x _ (getE_ok (by omega))
  have hv : c.val j = .slice (some ad) l.length m := by simpa using e
  have : ad.block = b := by rw [hv] at hb; simpa [Value.ownBlock] using hb
  subst this
  exact ⟨ad, rfl, hsp, cs, hc, hr, hE, hz ad _ m hv (by omega)⟩

theorem good_load (h : Gam W0 X N c fr hp nx a) (t : TypeId) (x : Operand) (hop : o.op = .load t x) (i : TI) (hi : TIok P t i) (hx : sat (ρ x) c [a.eval x]) :
    GoodR P W0 X N c fr hp nx a o (loadR i hp (ρ x)) := by
  have fin : ∀ (v : AV) (y : Value), (Instr.loadAt t (a.eval x)).run P c.w = .ok y c.w → sat v c [y] → OKv P c a o v := fun v y hr hv => by
    refine ⟨y, ?_, hv⟩
    unfold execOp; rw [hop]
    simp only [Sem.run_bind, hr, Result.andThen_ok, Sem.run_pure]
  have viaPart : ∀ {b base off : Nat} {cs : List Value} {l : AV}, c.w.rangeAt b base cs → sat l c cs → a.eval x = .pointer (some ⟨b, base + off, none⟩) → GoodR P W0 X N c fr hp nx a o (partR i l off) := by
    intro b base off cs l hr hs e
    rcases partR_ok (i := i) (l := l) (off := off) with ⟨v, hv⟩ | hv
    · rw [hv]
      obtain ⟨y, hy, hsy⟩ := load_part hr hs t i hi off v hv
      exact fin v y (by rw [e]; exact hy) hsy
    · rw [hv]; trivial
  generalize ρ x = r at hx
  cases r with
  | ptr j q =>
    simp only [loadR]
    split
    · rename_i l hj
      obtain ⟨hjn, b, hk, e⟩ := hx
      obtain ⟨b', cs, ty, hk', _, hh, hs⟩ := h.o j _ (getAO_at hj (by simp))
      rw [hk] at hk'; injection hk' with hk'; subst hk'
      refine viaPart (b := b) (base := 0) (cs := cs.toList) (fun p v hp => ?_) hs (by simpa using e)
      simp [World.cell?, hh]
      simpa using hp
    · trivial
  | rp k e q =>
    obtain ⟨b, q0, hv, hO, hb, hc⟩ := hx
    have hv' : a.eval x = .pointer (some ⟨b, q0 + q, none⟩) := by simpa using hv
    simp only [loadR]
    cases hag : i.ag with
    | true =>
      simp only [cond_true]
      cases hle : Nat.ble (q + i.sz) k with
      | false => trivial
      | true =>
        have hle' : q + i.sz ≤ k := Nat.le_of_ble_eq_true hle
        simp only [cond_true]
        have hg : ∀ m, ∀ j0, j0 + m ≤ k → ∃ cs : List Value, cs.length = m ∧ ∀ j, j < m → ∃ y, cs[j]? = some y ∧ c.w.cell? ⟨b, q0 + (j0 + j), none⟩ = some y ∧ sat (e (j0 + j)) c.bare [y] := by
          intro m
          induction m with
          | zero => exact fun j0 _ => ⟨[], rfl, fun j hj => absurd hj (Nat.not_lt_zero _)⟩
          | succ m ih =>
            intro j0 hj0
            obtain ⟨y, hy, hsy⟩ := hc j0 (by omega)
            obtain ⟨cs, hl, hcs⟩ := ih (j0 + 1) (by omega)
            refine ⟨y :: cs, by simp [hl], fun j hj => ?_⟩
            cases j with
            | zero => exact ⟨y, rfl, hy, hsy⟩
            | succ j =>
              obtain ⟨z, hz, h1, h2⟩ := hcs j (by omega)
              exact ⟨z, by simpa using hz, by rw [show q0 + (j0 + (j + 1)) = q0 + (j0 + 1 + j) by omega]; exact h1, by rw [show j0 + (j + 1) = j0 + 1 + j by omega]; exact h2⟩
        obtain ⟨cs, hl, hcs⟩ := hg i.sz q hle'
        refine fin _ (.agg cs.toArray) ?_ ⟨cs.toArray, rfl, ofFn_ok i.sz q hl fun j hj => ?_⟩
        · rw [hv']
          refine run_load c.w b (q0 + q) t i hi cs (fun j v hj => ?_) hl hag
          have hjl : j < i.sz := by rw [← hl]; exact (List.getElem?_eq_some_iff.1 hj).1
          obtain ⟨y, hy, hcell, _⟩ := hcs j hjl
          rw [hj] at hy; injection hy with hy; subst hy
          rw [show q0 + q + j = q0 + (q + j) by omega]; exact hcell
        · obtain ⟨y, hy, _, hsy⟩ := hcs j hj
          exact ⟨y, by simpa using hy, sat_bare _ hsy⟩
    | false =>
      simp only [cond_false]
      cases hlt : Nat.blt q k with
      | false => trivial
      | true =>
        have hlt' : q < k := by simpa [Nat.blt_eq] using hlt
        obtain ⟨y, hy, hsy⟩ := hc q hlt'
        refine fin _ y ?_ (sat_bare _ hsy)
        rw [hv']
        exact run_load1 c.w b (q0 + q) t i hi y hy hag
  | op j k y q =>
    obtain ⟨hjn, hyl, b, hb, e⟩ := hx
    have e' : a.eval x = .pointer (some ⟨b, y * k + q, none⟩) := by simpa using e
    simp only [loadR]
    split
    · rename_i qq τ ee l hj
      cases hk : Nat.beq (tsz τ) k with
      | false => trivial
      | true =>
        have hk' := Nat.eq_of_beq_eq_true hk
        subst hk'
        obtain ⟨_, _, _, _, _, _, _, _, _, cs, _, _, hr, hE⟩ := row_elem (h.o j _ (getAO_at hj (by simp))) hyl hb
        exact viaPart hr (encC_ok τ _ _ hE) e'
    · rename_i qq τ l hj
      cases hk : Nat.beq (tsz τ) k with
      | false => trivial
      | true =>
        have hk' := Nat.eq_of_beq_eq_true hk
        subst hk'
        have hobj := h.o j _ (getAO_at hj (by simp))
        obtain ⟨ad, rfl, hsp, cs, hc, hr, hE, hz⟩ := fz_elem hobj hyl hb
        rw [hz, Nat.zero_add] at hr
        exact viaPart hr (encC_ok τ _ _ hE) e'
    · trivial
  | _ => trivial

/-! ### Stores -/
theorem upd_get {α : Type} (L vals : List α) (p n : Nat) (h : p + vals.length ≤ L.length) : (L.take p ++ vals ++ L.drop (p + vals.length))[n]? = if n < p then L[n]? else if n < p + vals.length then vals[n - p]? else L[n]? := by
  by_cases h1 : n < p
  · rw [if_pos h1, List.append_assoc, List.getElem?_append_left (by simp; omega), List.getElem?_take, if_pos h1]
  · rw [if_neg h1]
    by_cases h2 : n < p + vals.length
    · rw [if_pos h2, List.getElem?_append_left (by simp; omega), List.getElem?_append_right (by simp; omega)]
      congr 1
      simp; omega
    · rw [if_neg h2, List.getElem?_append_right (by simp; omega), List.getElem?_drop]
      congr 1
      simp; omega
/-- One element's part turned: that element, and the others. -/
theorem chunk_upd {α : Type} (L vals : List α) (sz x o n : Nat) (ho : o + vals.length ≤ sz) (hx : x < n) (hn : n * sz ≤ L.length) (j : Nat) :
    ((L.take (x * sz + o) ++ vals ++ L.drop (x * sz + o + vals.length)).drop (j * sz)).take sz = if j = x then (((L.drop (x * sz)).take sz).take o ++ vals ++ ((L.drop (x * sz)).take sz).drop (o + vals.length)) else (L.drop (j * sz)).take sz := by
  have hm : (x + 1) * sz ≤ n * sz := Nat.mul_le_mul_right _ hx
  rw [Nat.add_mul] at hm
  refine List.ext_getElem? fun p => ?_
  rw [List.getElem?_take, List.getElem?_drop, upd_get _ _ _ _ (by omega)]
  by_cases hjx : j = x
  · subst hjx
    rw [if_pos rfl, upd_get _ _ _ _ (by simp; omega)]
    simp only [List.getElem?_take, List.getElem?_drop]
    by_cases hp : p < sz
    · simp only [if_pos hp]
      by_cases h1 : p < o
      · rw [if_pos (by omega), if_pos h1]
      · rw [if_neg (by omega), if_neg h1]
        by_cases h2 : p < o + vals.length
        · rw [if_pos (by omega), if_pos h2]; congr 1; omega
        · rw [if_neg (by omega), if_neg h2]
    · simp only [if_neg hp]
      rw [if_neg (by omega), if_neg (by omega)]
  · rw [if_neg hjx]
    simp only [List.getElem?_take, List.getElem?_drop]
    by_cases hp : p < sz
    · simp only [if_pos hp]
      rcases Nat.lt_or_gt_of_ne hjx with hlt | hgt
      · have : (j + 1) * sz ≤ x * sz := Nat.mul_le_mul_right _ hlt
        rw [Nat.add_mul] at this
        rw [if_pos (by omega)]
      · have : (x + 1) * sz ≤ j * sz := Nat.mul_le_mul_right _ hgt
        rw [Nat.add_mul] at this
        rw [if_neg (by omega), if_neg (by omega)]
    · simp only [if_neg hp]

theorem run_store {t : TypeId} {i : TI} (hi : TIok P t i) {w : World} {b q : Nat} {cs : Array Value} {ty : TypeId} (hh : rowHeap w b cs ty) {v : Value} (hlen : v.cells.toList.length = i.sz) (hle : q + v.cells.toList.length ≤ cs.size) (hone : ∀ y ∈ v.cells.toList, y.oneCell' = true) :
    (Instr.storeAt t (.pointer (some ⟨b, q, none⟩)) v).run P w = .ok () (w.setRow b (cs.toList.take q ++ v.cells.toList ++ cs.toList.drop (q + v.cells.toList.length)).toArray) := by
  have hrun := run_storeCells_mk P b q ty v.cells.toList 0 cs w hh (by simpa using hle) hone
  have hsize : (sizeOf t).run P w = .ok i.sz w := by
    have := hi.sz
    cases hq : P.info? t with
    | none => simp [hq] at this
    | some ti => simp [hq] at this; simp [sizeOf, typeInfo, hq, this, Sem.run_bind]
  have hne : ¬ (v.cells.size ≠ i.sz) := by
    intro hh; apply hh; simpa using hlen
  simp only [Instr.storeAt, Instr.sureAddr, Sem.run_bind, Sem.run_pure, Result.andThen_ok, storeVar, hsize, if_neg hne, hrun]
  simp only [Nat.add_zero]

theorem hasN_ok : ∀ (l : List Nat) (i : Nat), hasN l i = false → ¬ i ∈ l
  | [], _, _, h => by cases h
  | x :: r, i, h, hm => by
    simp only [hasN, Bool.or_eq_false_iff] at h
    rcases List.mem_cons.1 hm with rfl | hm
    · simp at h
    · exact hasN_ok r i h.2 hm

theorem good_store (h : Gam W0 X N c fr hp nx a) (t : TypeId) (x y : Operand) (hop : o.op = .store t x y) (i : TI) (hi : TIok P t i) (hx : sat (ρ x) c [a.eval x]) (hy : sat (ρ y) c [a.eval y]) :
    GoodR P W0 X N c fr hp nx a o (storeR i hp (ρ x) (ρ y)) := by
  have run : ∀ {w w' : World}, (Instr.storeAt t (a.eval x) (a.eval y)).run P w = .ok () w' → (execOp a.eval o).run P w = .ok .skip w' := fun {w w'} hr => by
    unfold execOp; rw [hop]
    simp only [Sem.run_bind, hr, Result.andThen_ok, Sem.run_pure]
  unfold storeR
  generalize ρ x = r at hx
  cases r with
  | ptr j q =>
    cases hl : cellsOf (ρ y) with
    | none => trivial
    | some l' =>
      simp only []
      cases hsz : lenIs l' i.sz with
      | false => trivial
      | true =>
        simp only [cond_true]
        split
        · rename_i l hj
          refine lift_good fun l2 hl2 => ?_
          intro hjl
          obtain ⟨hs', hone⟩ := cellsOf_ok hl hy
          obtain ⟨hjn, b, hk, e⟩ := hx
          have e' : a.eval x = .pointer (some ⟨b, q, none⟩) := by simpa using e
          obtain ⟨b', cs, ty, hk', hkey, hh, hs⟩ := h.o j _ (getAO_at hj (by simp))
          rw [hk] at hk'; injection hk' with hk'; subst hk'
          obtain ⟨hle, hs2⟩ := setc_ok l q l' hl2 hs hs'
          have hlen := lenIs_ok l' i.sz hsz hs'
          obtain ⟨hg, _⟩ := h.setW (w' := c.w.setRow b (cs.toList.take q ++ (a.eval y).cells.toList ++ cs.toList.drop (q + (a.eval y).cells.toList.length)).toArray) (ob := .cells l2) hjn hkey (size_setRow _ _ _) (fun k hkb => setRow_other _ _ _ _ hkb) rfl rfl rfl
            (fun st => ⟨b, _, ty, hk, hkey, setRow_heap c.w b cs _ ty _ hh, by simpa using sat_step _ st hs2⟩)
          exact ⟨_, run (by rw [e']; exact run_store hi (.of hh) hlen (by simpa using hle) hone), hg, rfl⟩
        · trivial
  | op j k z q =>
    cases hl : cellsOf (ρ y) with
    | none => trivial
    | some l' =>
      simp only []
      cases hsz : (lenIs l' i.sz && !hasN (owsOf l') j) with
      | false => trivial
      | true =>
        simp only [Bool.and_eq_true, Bool.not_eq_true'] at hsz
        simp only [cond_true]
        split
        · rename_i qq τ ee l hj
          cases hk : Nat.beq (tsz τ) k with
          | false => trivial
          | true =>
            have hk' := Nat.eq_of_beq_eq_true hk
            subst hk'
            simp only [cond_true]
            split
            · rename_i c' hc'
              obtain ⟨hs', hone⟩ := cellsOf_ok hl hy
              obtain ⟨hjn, hzl, b, hb, e⟩ := hx
              have e' : a.eval x = .pointer (some ⟨b, z * tsz τ + q, none⟩) := by simpa using e
              have hlen := lenIs_ok l' i.sz hsz.1 hs'
              have hnot := hasN_ok _ _ hsz.2
              obtain ⟨c1, w1, n1, v1, b1, k1, _, g1, s1, ln1, o1, f1⟩ := h.freeze (owsOf l')
              have hj1 : getAO (frz (owsOf l') hp) j = .row qq τ ee l := (o1 j hnot).trans hj
              have hsu : sat (unow hp l') c1 (a.eval y).cells.toList := unow_ok h.ob s1 l' (owsOf l') (fun i hi => hi) f1 hs'
              have hrow : rowAt c1 j qq τ ee l := g1.o j _ (getAO_at hj1 (by simp))
              have hzl1 : z < c1.len j := by rw [← hrow.2.1]; have := (h.o j _ (getAO_at hj (by simp)) : rowAt c j qq τ ee l).2.1; omega
              obtain ⟨cap, cur, ev, ek, eh, ec, em, es, hzl2, cs, hcs, hcl, hr, hE⟩ := row_elem hrow hzl1 (b := b) (by rw [v1]; exact hb)
              obtain ⟨hle, hs2⟩ := setc_ok _ q (unow hp l') hc' (encC_ok τ _ _ hE) hsu
              have hjn1 : j < c1.n := by rw [n1]; exact hjn
              have hm : (z + 1) * tsz τ ≤ l.length * tsz τ := Nat.mul_le_mul_right _ hzl2
              have hm2 : l.length * tsz τ ≤ cap * tsz τ := Nat.mul_le_mul_right _ ec
              have hm3 := hm
              rw [Nat.add_mul] at hm3
              have hfit : z * tsz τ + q + (a.eval y).cells.toList.length ≤ cur.size := by rw [hcl] at hle; omega
              have hstore := run_store (P := P) hi (w := c1.w) (b := b) (q := z * tsz τ + q) eh hlen hfit hone
              refine decK_ok (c := c1) (no := R.no) (P := GoodR P W0 X N c fr hp nx a o) trivial τ c' _ _ hs2 fun q' x' hx' => ?_
              have main : ∃ c', (execOp a.eval o).run P c.w = .ok .skip c'.w ∧ Gam W0 X N c' fr ((frz (owsOf l') hp).set j (.row (qq && q') τ ee (l.set z x'))) (frz (owsOf l') hp).length a ∧ AV.u = .u := by
                have hob : Step c1 (c1.to (c1.w.setRow b (cur.toList.take (z * tsz τ + q) ++ (a.eval y).cells.toList ++ cur.toList.drop (z * tsz τ + q + (a.eval y).cells.toList.length)).toArray)) → osat (.row (qq && q') τ ee (l.set z x')) (c1.to (c1.w.setRow b (cur.toList.take (z * tsz τ + q) ++ (a.eval y).cells.toList ++ cur.toList.drop (z * tsz τ + q + (a.eval y).cells.toList.length)).toArray)) j := by
                  intro st
                  obtain ⟨h0, h1, hq, xs, h2, h3, h4⟩ := hrow
                  have hLlen : ((cur.toList.take (z * tsz τ + q) ++ (a.eval y).cells.toList ++ cur.toList.drop (z * tsz τ + q + (a.eval y).cells.toList.length)).toArray).size = cur.size := by have hf2 := hfit; simp at hf2 ⊢; omega
                  refine ⟨h0, by rw [List.length_set]; exact h1, fun hqt g hg => hq (by revert hqt; cases qq <;> simp) g hg, ((cur.toList.take (z * tsz τ + q) ++ (a.eval y).cells.toList ++ cur.toList.drop (z * tsz τ + q + (a.eval y).cells.toList.length))).take (l.length * tsz τ), ?_, .inr ⟨b, cap, _, by rw [List.length_set]; exact ev, ek, eh.set _ hLlen, by rw [List.length_set]; exact ec, em, by rw [hLlen]; exact es, by rw [List.length_set]⟩, fun p y' hp' => ?_⟩
                  · have hf2 := hfit
                    simp at hf2 ⊢; omega
                  · have hpl : p < l.length := by have := (List.getElem?_eq_some_iff.1 hp').1; simpa using this
                    have hmp : (p + 1) * tsz τ ≤ l.length * tsz τ := Nat.mul_le_mul_right _ hpl
                    rw [Nat.add_mul] at hmp
                    rw [List.drop_take, List.take_take, Nat.min_eq_left (by omega)]
                    rw [chunk_upd _ _ _ _ _ l.length (by rw [hcl] at hle; exact hle) hzl2 (by simp; omega)]
                    by_cases hpz : p = z
                    · subst hpz
                      have hyx : y' = x' := by
                        rw [List.getElem?_set_self (by omega)] at hp'
                        simpa using hp'.symm
                      subst hyx
                      rw [if_pos rfl, ← hcs]
                      exact memE_keeps (st.keeps (q := q') (q' := qq && q') (by simp)) τ _ _ hx'
                    · rw [if_neg hpz]
                      rw [List.getElem?_set_ne (fun e => hpz e.symm)] at hp'
                      have hold := h4 p y' hp'
                      have hxs : (xs.drop (p * tsz τ)).take (tsz τ) = (cur.toList.drop (p * tsz τ)).take (tsz τ) := by
                        rcases h3 with ⟨q1, _⟩ | ⟨g, cap', cur', q1, q2, q3, q4, q5, q6, q7⟩
                        · rw [q1] at hpl; simp at hpl
                        · rw [ek] at q2; injection q2 with q2; subst q2
                          have q3 := eh.inj q3
                          subst q3
                          rw [← q7, List.drop_take, List.take_take, Nat.min_eq_left (by omega)]
                      rw [hxs] at hold
                      exact memE_keeps (st.keeps (q := qq) (q' := qq && q') (by simp; exact fun h _ => h)) τ _ _ hold
                obtain ⟨hg, _⟩ := g1.setW (i := j) (b := b) hjn1 ek (size_setRow _ _ _) (fun k hkb => setRow_other _ _ _ _ hkb) rfl rfl rfl hob
                exact ⟨_, run (by rw [e', ← w1]; exact hstore), hg, rfl⟩
              unfold putR
              split
              · rename_i hnil
                intro _
                rw [hnil] at main
                obtain ⟨c2, m1, m2, _⟩ := main
                refine ⟨c2, m1, ?_, rfl⟩
                rw [h.nl]
                exact m2
              · intro _
                obtain ⟨c2, m1, m2, _⟩ := main
                refine ⟨c2, m1, ?_, rfl⟩
                rw [setAO_eq]
                rw [show (frz (owsOf l') hp).length = ((frz (owsOf l') hp).set j (.row (qq && q') τ ee (l.set z x'))).length by simp] at m2
                exact m2
            · trivial
        · trivial
  | _ => cases cellsOf (ρ y) <;> trivial

end
end Go.Proofs.Ythlkhjfilfdpiaa.Eng
