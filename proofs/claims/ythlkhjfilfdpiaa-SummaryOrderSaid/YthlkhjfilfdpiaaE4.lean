/- ENGINE, 4: each operation over abstract values is what the model's is. -/
import Derived.Test.YthlkhjfilfdpiaaE3
namespace Go.Proofs.Ythlkhjfilfdpiaa.Eng
set_option linter.unusedVariables false
set_option linter.unusedSimpArgs false
open Go Go.RowKit

/-- A callee's word: whatever blocks are shut. -/
def CallOk (P : Program) (call : FuncId → AV → Option CR) : Prop :=
  ∀ f l r, call f l = some r → r.pre → ∀ (c : Cx) (args : Array Value), sat l c args.toList → (∀ b, c.O b → b < c.w.heap.size) →
    (∃ fn : Func, P.funcs[f]? = some fn ∧ fn.body.isSome = true ∧ fn.name ≠ "runtime.NumGoroutine") ∧
    Calls P f args c.w fun e w' => ∃ x, e = .returned x ∧ Below c.w.heap.size c.w w' ∧ sat r.res (c.to w') [x]

def OKv (P : Program) (c : Cx) (a : Act) (o : Oper) (v : AV) : Prop := ∃ x, (execOp a.eval o).run P c.w = .ok (.value x) c.w ∧ sat v c [x]

def GoodR (P : Program) (W0 : World) (X : Bd) (N : Nat) (c : Cx) (fr : Fr) (hp : List AO) (nx : Nat) (a : Act) (o : Oper) : R → Prop
  | .no => True
  | .ok v => OKv P c a o v
  | .ob p v => p → OKv P c a o v
  | .call r => r.pre → ∃ f args, (execOp a.eval o).run P c.w = .ok (.enter f args) c.w ∧
      Calls P f args c.w fun e w' => ∃ x, e = .returned x ∧ Below c.w.heap.size c.w w' ∧ sat r.res (c.to w') [x]
  | .new v ob => ∃ x c', (execOp a.eval o).run P c.w = .ok (.value x) c'.w ∧ Gam W0 X N c' fr (hp ++ [ob]) (nx + 1) a ∧ sat v c' [x]
  | .set v i ob => i < hp.length → ∃ c', (execOp a.eval o).run P c.w = .ok .skip c'.w ∧ Gam W0 X N c' fr (hp.set i ob) nx a ∧ v = .u
  | .upd v i ob => i < hp.length → ∃ x c', (execOp a.eval o).run P c.w = .ok (.value x) c'.w ∧ Gam W0 X N c' fr (hp.set i ob) nx a ∧ sat v c' [x]

section
variable {P : Program} {W0 : World} {X : Bd} {N : Nat} {c : Cx} {fr : Fr} {hp : List AO} {nx : Nat} {a : Act} {o : Oper} {ρ : Operand → AV}

theorem lift_good {x : Option AV} {f : AV → R} (h : ∀ v, x = some v → GoodR P W0 X N c fr hp nx a o (f v)) : GoodR P W0 X N c fr hp nx a o (lift x f) := by
  cases x with
  | none => trivial
  | some v => exact h v rfl

/-- One own object more: a block. -/
theorem Gam.new (h : Gam W0 X N c fr hp nx a) {l : AV} {cs : Array Value} {t : TypeId} (hs : sat l c cs.toList) :
    ∃ c', c'.w = c.w.alloc (.cells cs t) ∧ Gam W0 X N c' fr (hp ++ [.cells l]) (nx + 1) a ∧ sat (.ptr nx 0) c' [.pointer (some ⟨c.w.heap.size, 0, none⟩)] := by
  let c' : Cx := ⟨c.w.alloc (.cells cs t), fun i => if i = c.n then some c.w.heap.size else c.key i, c.val, c.n + 1, fun b => c.O b ∨ b = c.w.heap.size, c.one⟩
  have hw : ∀ b, b < c.w.heap.size → c'.w.heap[b]? = c.w.heap[b]? := fun b hb => Below.heap_alloc c.w _ b hb
  have hz : c'.w.heap.size = c.w.heap.size + 1 := World.size_alloc _ _
  have st : Step c c' := ⟨Nat.le_succ _, fun i b hi hk => (if_neg (by omega)).trans hk, fun _ _ => rfl, fun b hO hb h' => h'.elim hO (by omega), by omega, fun b _ hb => hw b hb⟩
  have nc := h.nc
  have nl := h.nl
  refine ⟨c', rfl, ⟨h.d, h.z, fun i => sat_step _ st (h.f i), by simp [nl], by simp [c', nc], fun i ob hi => ?_, fun i j b hi hj h1 h2 => ?_, fun i b hi hk => ?_, fun b hO => ?_, fun b hb => .inl (h.oo b hb), h.os, h.tp, h.ou, by have := h.sz; omega, fun b hb hX => ?_⟩, ?_⟩
  · rcases Nat.lt_or_ge i hp.length with hlt | hge
    · rw [List.getElem?_append_left hlt] at hi
      have := h.o i ob hi
      cases ob with
      | cells m =>
        obtain ⟨b, cs', t', hk, hh, hs'⟩ := this
        have hi' : i < c.n := by omega
        exact ⟨b, cs', t', st.key i b hi' hk, (hw b (h.kb i b hi' hk).2.1).trans hh, sat_step _ st hs'⟩
      | row e k n g =>
        obtain ⟨hk, cs', how, hs'⟩ := this
        have hi' : i < c.n := by omega
        refine ⟨(if_neg (by omega) : c'.key i = c.key i).trans hk, cs', ?_, fun a ha j hj => ?_⟩
        · obtain ⟨h1, h2⟩ := how
          refine ⟨h1, ?_⟩
          rcases h2 with h2 | ⟨q, cap, cur, hv, hg, hh, r⟩
          · exact .inl h2
          · exact .inr ⟨q, cap, cur, hv, hg, (hw q (Array.getElem?_eq_some_iff.1 hh).1).trans hh, r⟩
        · obtain ⟨x, hx, hsx⟩ := hs' a ha j hj
          exact ⟨x, hx, sat_step _ st.bare hsx⟩
      | fz k n g =>
        have hi' : i < c.n := by omega
        exact ⟨(if_neg (by omega) : c'.key i = c.key i).trans this.1, sat_step _ st this.2⟩
      | dead => trivial
      | void => exact (if_neg (by omega) : c'.key i = c.key i).trans this
    · have hie : i = hp.length := by
        have := (List.getElem?_eq_some_iff.1 hi).1
        simp at this; omega
      subst hie
      simp at hi
      subst hi
      refine ⟨c.w.heap.size, cs, t, by simp [c', nc], ?_, sat_step _ st hs⟩
      show (c.w.heap.push _)[c.w.heap.size]? = _
      simp
  · by_cases hin : i = c.n <;> by_cases hjn : j = c.n
    · omega
    · have h1' : b = c.w.heap.size := by simpa [c', hin] using h1.symm
      have h2' : c.key j = some b := by simpa [c', hjn] using h2
      have := (h.kb j b (by simp [c'] at hj; omega) h2').2.1
      omega
    · have h2' : b = c.w.heap.size := by simpa [c', hjn] using h2.symm
      have h1' : c.key i = some b := by simpa [c', hin] using h1
      have := (h.kb i b (by simp [c'] at hi; omega) h1').2.1
      omega
    · have h1' : c.key i = some b := by simpa [c', hin] using h1
      have h2' : c.key j = some b := by simpa [c', hjn] using h2
      exact h.dj i j b (by simp [c'] at hi; omega) (by simp [c'] at hj; omega) h1' h2'
  · by_cases hin : i = c.n
    · have hb : b = c.w.heap.size := by simpa [c', hin] using hk.symm
      exact ⟨.inr hb, by omega, fun hlt => by have := h.sz; omega⟩
    · have hk' : c.key i = some b := by simpa [c', hin] using hk
      have := h.kb i b (by simp [c'] at hi; omega) hk'
      exact ⟨.inl this.1, by omega, this.2.2⟩
  · rcases hO with hO | hO
    · have := h.ol b hO; omega
    · omega
  · exact (hw b (by have := h.sz; omega)).trans (h.kp b hb hX)
  · exact ⟨by simp [c']; omega, c.w.heap.size, by simp [c', nl, nc], rfl⟩

/-- An own object at a place that was kept for it. -/
theorem Gam.newAt (h : Gam W0 X N c fr hp nx a) {sl : Nat} (hv : hp[sl]? = some .void) {l : AV} {cs : Array Value} {t : TypeId} (hs : sat l c cs.toList) :
    ∃ c', c'.w = c.w.alloc (.cells cs t) ∧ Gam W0 X N c' fr (hp.set sl (.cells l)) nx a ∧ sat (.ptr sl 0) c' [.pointer (some ⟨c.w.heap.size, 0, none⟩)] := by
  let c' : Cx := ⟨c.w.alloc (.cells cs t), fun i => if i = sl then some c.w.heap.size else c.key i, c.val, c.n, fun b => c.O b ∨ b = c.w.heap.size, c.one⟩
  have hsl : sl < hp.length := (List.getElem?_eq_some_iff.1 hv).1
  have hvoid : c.key sl = none := h.o sl _ hv
  have hw : ∀ b, b < c.w.heap.size → c'.w.heap[b]? = c.w.heap[b]? := fun b hb => Below.heap_alloc c.w _ b hb
  have hz : c'.w.heap.size = c.w.heap.size + 1 := World.size_alloc _ _
  have hkey : ∀ i, i ≠ sl → c'.key i = c.key i := fun i hi => if_neg hi
  have st : Step c c' := ⟨Nat.le_refl _, fun i b hi hk => (hkey i (fun e => by rw [e, hvoid] at hk; cases hk)).trans hk, fun _ _ => rfl, fun b hO hb h' => h'.elim hO (by omega), by omega, fun b _ hb => hw b hb⟩
  have nc := h.nc
  refine ⟨c', rfl, ⟨h.d, h.z, fun i => sat_step _ st (h.f i), by simp [h.nl], by simp [c', nc], fun i ob hi => ?_, fun i j b hi hj h1 h2 => ?_, fun i b hi hk => ?_, fun b hO => ?_, fun b hb => .inl (h.oo b hb), h.os, h.tp, h.ou, by have := h.sz; omega, fun b hb hX => ?_⟩, ?_⟩
  · by_cases hij : i = sl
    · subst hij
      simp [hsl] at hi
      subst hi
      refine ⟨c.w.heap.size, cs, t, by simp [c'], ?_, sat_step _ st hs⟩
      show (c.w.heap.push _)[c.w.heap.size]? = _
      simp
    · rw [List.getElem?_set_ne (fun e => hij e.symm)] at hi
      have hi' : i < c.n := by have := (List.getElem?_eq_some_iff.1 hi).1; omega
      have := h.o i ob hi
      cases ob with
      | cells m =>
        obtain ⟨b, cs', t', hk, hh, hs'⟩ := this
        exact ⟨b, cs', t', (hkey i hij).trans hk, (hw b (h.kb i b hi' hk).2.1).trans hh, sat_step _ st hs'⟩
      | row e k n g =>
        obtain ⟨hk, cs', how, hs'⟩ := this
        refine ⟨(hkey i hij).trans hk, cs', ?_, fun a ha j hj => ?_⟩
        · obtain ⟨h1, h2⟩ := how
          refine ⟨h1, ?_⟩
          rcases h2 with h2 | ⟨q, cap, cur, hv, hg, hh, r⟩
          · exact .inl h2
          · exact .inr ⟨q, cap, cur, hv, hg, (hw q (Array.getElem?_eq_some_iff.1 hh).1).trans hh, r⟩
        · obtain ⟨x, hx, hsx⟩ := hs' a ha j hj
          exact ⟨x, hx, sat_step _ st.bare hsx⟩
      | fz k n g => exact ⟨(hkey i hij).trans this.1, sat_step _ st this.2⟩
      | dead => trivial
      | void => exact (hkey i hij).trans this
  · by_cases hin : i = sl <;> by_cases hjn : j = sl
    · omega
    · have h1' : b = c.w.heap.size := by simpa [c', hin] using h1.symm
      have h2' : c.key j = some b := (hkey j hjn).symm.trans h2
      have := (h.kb j b hj h2').2.1
      omega
    · have h2' : b = c.w.heap.size := by simpa [c', hjn] using h2.symm
      have h1' : c.key i = some b := (hkey i hin).symm.trans h1
      have := (h.kb i b hi h1').2.1
      omega
    · exact h.dj i j b hi hj ((hkey i hin).symm.trans h1) ((hkey j hjn).symm.trans h2)
  · by_cases hin : i = sl
    · have hb : b = c.w.heap.size := by simpa [c', hin] using hk.symm
      exact ⟨.inr hb, by omega, fun hlt => by have := h.sz; omega⟩
    · have := h.kb i b hi ((hkey i hin).symm.trans hk)
      exact ⟨.inl this.1, by omega, this.2.2⟩
  · rcases hO with hO | hO
    · have := h.ol b hO; omega
    · omega
  · exact (hw b (by have := h.sz; omega)).trans (h.kp b hb hX)
  · exact ⟨by simp [c']; omega, c.w.heap.size, by simp [c'], rfl⟩

/-- A place for an object that is not yet there. -/
theorem Gam.addVoid (h : Gam W0 X N c fr hp nx a) : ∃ c', c'.w = c.w ∧ Gam W0 X N c' fr (hp ++ [.void]) (nx + 1) a := by
  let c' : Cx := ⟨c.w, fun i => if i = c.n then none else c.key i, c.val, c.n + 1, c.O, c.one⟩
  have hkey : ∀ i, i < c.n → c'.key i = c.key i := fun i hi => if_neg (by omega)
  have st : Step c c' := ⟨Nat.le_succ _, fun i b hi hk => (hkey i hi).trans hk, fun _ _ => rfl, fun b hO hb h' => hO h', Nat.le_refl _, fun b _ hb => rfl⟩
  have nc := h.nc
  have nl := h.nl
  refine ⟨c', rfl, ⟨h.d, h.z, fun i => sat_step _ st (h.f i), by simp [nl], by simp [c', nc], fun i ob hi => ?_, fun i j b hi hj h1 h2 => ?_, fun i b hi hk => ?_, h.ol, h.oo, h.os, h.tp, h.ou, h.sz, h.kp⟩⟩
  · rcases Nat.lt_or_ge i hp.length with hlt | hge
    · rw [List.getElem?_append_left hlt] at hi
      have := h.o i ob hi
      have hi' : i < c.n := by omega
      cases ob with
      | cells m =>
        obtain ⟨b, cs', t', hk, hh, hs'⟩ := this
        exact ⟨b, cs', t', (hkey i hi').trans hk, hh, sat_step _ st hs'⟩
      | row e k n g =>
        obtain ⟨hk, cs', how, hs'⟩ := this
        refine ⟨(hkey i hi').trans hk, cs', how, fun a ha j hj => ?_⟩
        obtain ⟨x, hx, hsx⟩ := hs' a ha j hj
        exact ⟨x, hx, sat_step _ st.bare hsx⟩
      | fz k n g => exact ⟨(hkey i hi').trans this.1, sat_step _ st this.2⟩
      | dead => trivial
      | void => exact (hkey i hi').trans this
    · have hie : i = hp.length := by
        have := (List.getElem?_eq_some_iff.1 hi).1
        simp at this; omega
      subst hie
      simp at hi
      subst hi
      show (if hp.length = c.n then none else c.key hp.length) = none
      rw [if_pos (by omega)]
  · have hne : ∀ i b, c'.key i = some b → i ≠ c.n := fun i b hk e => by simp [c', e] at hk
    have hi' : i < c.n := by have := hne i b h1; simp [c'] at hi; omega
    have hj' : j < c.n := by have := hne j b h2; simp [c'] at hj; omega
    exact h.dj i j b hi' hj' ((hkey i hi').symm.trans h1) ((hkey j hj').symm.trans h2)
  · have hne : i ≠ c.n := fun e => by simp [c', e] at hk
    have hi' : i < c.n := by simp [c'] at hi; omega
    exact h.kb i b hi' ((hkey i hi').symm.trans hk)

/-- An own block turned. -/
theorem Gam.setO (h : Gam W0 X N c fr hp nx a) {i : Nat} {b : Nat} {l : AV} {cs old : Array Value} {t : TypeId} (hi : i < c.n) (hk : c.key i = some b) (hh : c.w.heap[b]? = some (.cells old t (0, 0))) (hs : sat l c cs.toList) :
    ∃ c', c'.w = c.w.setRow b cs ∧ Gam W0 X N c' fr (hp.set i (.cells l)) nx a := by
  have hO := h.kb i b hi hk
  have hw : ∀ k, k ≠ b → (c.to (c.w.setRow b cs)).w.heap[k]? = c.w.heap[k]? := fun k hkb => setRow_other c.w b k cs hkb
  have hz : (c.to (c.w.setRow b cs)).w.heap.size = c.w.heap.size := size_setRow _ _ _
  have st : Step c (c.to (c.w.setRow b cs)) := ⟨Nat.le_refl _, fun _ _ _ h => h, fun _ _ => rfl, fun _ h _ => h, by omega, fun k hkO _ => hw k (fun e => hkO (e ▸ hO.1))⟩
  have nc := h.nc
  refine ⟨c.to (c.w.setRow b cs), rfl, ⟨h.d, h.z, fun j => sat_step _ st (h.f j), by simp [h.nl], by simp [nc, Cx.to], fun j ob hj => ?_, h.dj, fun j k hj hkj => ?_, fun k hk' => by rw [hz]; exact h.ol k hk', h.oo, h.os, h.tp, h.ou, by rw [hz]; exact h.sz, fun k hkl hX => ?_⟩⟩
  · by_cases hij : i = j
    · subst hij
      have hl : i < hp.length := by omega
      simp [hl] at hj
      subst hj
      exact ⟨b, cs, t, hk, setRow_heap c.w b old cs t _ hh, sat_step _ st hs⟩
    · rw [List.getElem?_set_ne hij] at hj
      have hjl : j < c.n := by have := (List.getElem?_eq_some_iff.1 hj).1; omega
      have := h.o j ob hj
      have hne : ∀ k, c.key j = some k → k ≠ b := fun k hkj e => hij (h.dj i j b hi hjl hk (e ▸ hkj))
      cases ob with
      | cells m =>
        obtain ⟨k, cs', t', hkj, hh', hs'⟩ := this
        exact ⟨k, cs', t', hkj, (hw k (hne k hkj)).trans hh', sat_step _ st hs'⟩
      | row e k n g =>
        obtain ⟨hkj, cs', how, hs'⟩ := this
        refine ⟨hkj, cs', ?_, fun a ha m hm => ?_⟩
        · obtain ⟨h1, h2⟩ := how
          refine ⟨h1, ?_⟩
          rcases h2 with h2 | ⟨q, cap, cur, hv, hg, hhq, r⟩
          · exact .inl h2
          · refine .inr ⟨q, cap, cur, hv, hg, (hw q (hne q ?_)).trans hhq, r⟩
            rw [hkj, hv]; rfl
        · obtain ⟨x, hx, hsx⟩ := hs' a ha m hm
          exact ⟨x, hx, sat_step _ st.bare hsx⟩
      | fz k n g => exact ⟨this.1, sat_step _ st this.2⟩
      | dead => trivial
      | void => exact this
  · have := h.kb j k hj hkj
    exact ⟨this.1, by rw [hz]; exact this.2.1, this.2.2⟩
  · have hkb : k ≠ b := fun e => hX (hO.2.2 (e ▸ hkl) |> fun x => e ▸ x)
    exact (hw k hkb).trans (h.kp k hkl hX)
end

theorem run_box (P : Program) (w : World) (t : TypeId) (x : Value) : (Instr.box t x).run P w = .ok (.pointer (some ⟨w.heap.size, 0, none⟩)) (w.alloc (.cells x.cells t)) := rfl

section
variable {P : Program} {W0 : World} {X : Bd} {N : Nat} {c : Cx} {fr : Fr} {hp : List AO} {nx : Nat} {a : Act} {o : Oper} {ρ : Operand → AV}

theorem good_move (x : Operand) (hop : o.op = .move x ∨ o.op = .assign x) (hx : sat (ρ x) c [a.eval x]) : OKv P c a o (ρ x) := by
  refine ⟨a.eval x, ?_, hx⟩
  rcases hop with hop | hop <;> (unfold execOp; rw [hop]; rfl)

theorem good_box (h : Gam W0 X N c fr hp nx a) (t : TypeId) (x : Operand) (hop : o.op = .box t x) (hx : sat (ρ x) c [a.eval x]) :
    GoodR P W0 X N c fr hp nx a o (lift (cellsOf (ρ x)) fun l => .new (.ptr nx 0) (.cells l)) := by
  refine lift_good fun l hl => ?_
  obtain ⟨c', hw, hg, hs⟩ := h.new (t := t) (cellsOf_ok hl hx).1
  refine ⟨_, c', ?_, hg, hs⟩
  unfold execOp; rw [hop]
  simp only [Sem.run_bind, run_box, Result.andThen_ok, Sem.run_pure, hw]

theorem good_alloc (h : Gam W0 X N c fr hp nx a) (t : TypeId) (hop : o.op = .alloc t) (i : TI) (hi : TIok P t i) (z : Value) (hz : i.ze = some z) :
    GoodR P W0 X N c fr hp nx a o (.new (.ptr nx 0) (.cells (ofValues z.cells.toList))) := by
  obtain ⟨c', hw, hg, hs⟩ := h.new (t := t) (l := ofValues z.cells.toList) (cs := z.cells) (ofValues_ok c _)
  refine ⟨_, c', ?_, hg, hs⟩
  have hze := hi.ze z hz
  cases hq : P.info? t with
  | none => simp [hq] at hze
  | some ti =>
    simp [hq] at hze
    unfold execOp; rw [hop]
    simp [Sem.run_bind, Instr.alloc, zeroValue, typeInfo, hq, hze, Result.andThen_ok, Sem.run_pure, hw]
    rfl

/-- So, at a place that was kept. -/
theorem good_newAt (E : Env) (hT : ∀ t i, tyOf E.ty t = some i → TIok P t i) (h : Gam W0 X N c fr hp nx a) {sl : Nat} (hv : hp[sl]? = some .void) {v : AV} {ob : AO} (he : evalOp E ρ hp sl o.op = .new v ob) (hnew : isNew o = true) (hx : ∀ x ∈ o.op.operands.toList, sat (ρ x) c [a.eval x]) :
    ∃ x c', (execOp a.eval o).run P c.w = .ok (.value x) c'.w ∧ Gam W0 X N c' fr (hp.set sl ob) nx a ∧ sat v c' [x] := by
  unfold isNew at hnew
  simp only [Bool.and_eq_true] at hnew
  have h2 := hnew.2
  split at h2
  · rename_i t hop
    rw [hop] at he
    simp only [evalOp] at he
    split at he
    · rename_i i hi
      split at he
      · rename_i z hz
        injection he with h1 h2
        subst h1 h2
        obtain ⟨c', hw, hg, hs⟩ := h.newAt hv (t := t) (l := ofValues z.cells.toList) (cs := z.cells) (ofValues_ok c _)
        refine ⟨_, c', ?_, hg, hs⟩
        have hze := (hT t i hi).ze z hz
        cases hq : P.info? t with
        | none => simp [hq] at hze
        | some ti =>
          simp [hq] at hze
          unfold execOp; rw [hop]
          simp [Sem.run_bind, Instr.alloc, zeroValue, typeInfo, hq, hze, Result.andThen_ok, Sem.run_pure, hw]
          rfl
      · cases he
    · cases he
  · rename_i t x hop
    rw [hop] at he hx
    simp only [evalOp] at he
    have hx1 := hx x (by simp [Op.operands])
    cases hl : cellsOf (ρ x) with
    | none => simp [hl, lift] at he
    | some l =>
      simp only [hl, lift] at he
      injection he with h1 h2
      subst h1 h2
      obtain ⟨c', hw, hg, hs⟩ := h.newAt hv (t := t) (cellsOf_ok hl hx1).1
      refine ⟨_, c', ?_, hg, hs⟩
      unfold execOp; rw [hop]
      simp only [Sem.run_bind, run_box, Result.andThen_ok, Sem.run_pure, hw]
  · cases h2

/-- Cells that are there, read as a value of a type. -/
theorem run_load (w : World) (b o : Nat) (t : TypeId) (i : TI) (hi : TIok P t i) (cs : List Value) (hcs : w.rangeAt b o cs) (hl : cs.length = i.sz) (hag : i.ag = true) :
    (Instr.loadAt t (.pointer (some ⟨b, o, none⟩))).run P w = .ok (.agg cs.toArray) w := by
  have hu := hi.ag
  cases hq : P.underlying t with
  | none => simp [hq] at hu
  | some d => exact run_loadAt_mid w b o t cs d hcs hq (by simpa [hq, hag] using hu) (by rw [hi.sz, hl])
theorem run_load1 (w : World) (b o : Nat) (t : TypeId) (i : TI) (hi : TIok P t i) (x : Value) (hx : w.cell? ⟨b, o, none⟩ = some x) (hag : i.ag = false) :
    (Instr.loadAt t (.pointer (some ⟨b, o, none⟩))).run P w = .ok x w := by
  have hu := hi.ag
  cases hq : P.underlying t with
  | none => simp [hq] at hu
  | some d =>
    have hagg : (isAgg t).run P w = .ok false w := by
      unfold isAgg
      rw [Sem.run_bind, run_underlying hq w]
      have : d.isRow = false := by simpa [hq, hag] using hu
      cases d <;> simp_all
    simp [Instr.loadAt, Instr.sureAddr, Sem.run_bind, loadVar, hagg, load, Sem.run, hx]

theorem getAO_ok : ∀ (l : List AO) (j : Nat) {m : AV}, getAO l j = .cells m → l[j]? = some (.cells m)
  | [], _, _, h => by cases h
  | o :: r, 0, m, h => by simp [getAO] at h; simp [h]
  | o :: r, j + 1, m, h => by simpa using getAO_ok r j h

/-- The cells of an own block. -/
theorem Gam.cells (h : Gam W0 X N c fr hp nx a) {j o n : Nat} {l p : AV} {x : Value} (hx : sat (.ptr j o) c [x]) (hj : getAO hp j = .cells l) (hp' : part l o n = some p) :
    ∃ b cs t, j < c.n ∧ c.key j = some b ∧ x = .pointer (some ⟨b, o, none⟩) ∧ c.w.heap[b]? = some (.cells cs t (0, 0)) ∧ sat l c cs.toList ∧ o + n ≤ cs.size ∧ sat p c ((cs.toList.drop o).take n) ∧ c.w.rangeAt b o ((cs.toList.drop o).take n) := by
  obtain ⟨hjn, b, hk, e⟩ := hx
  obtain ⟨b', cs, t, hk', hh, hs⟩ := h.o j _ (getAO_ok hp j hj)
  rw [hk] at hk'; injection hk' with hk'; subst hk'
  obtain ⟨hle, hsp⟩ := part_ok l o n hp' hs
  refine ⟨b, cs, t, hjn, hk, by simpa using e, hh, hs, by simpa using hle, hsp, fun q v hq => ?_⟩
  have : cs[o + q]? = some v := by
    rw [List.getElem?_take] at hq
    split at hq
    · simpa [List.getElem?_drop] using hq
    · cases hq
  simp [World.cell?, hh, this]

theorem good_load (h : Gam W0 X N c fr hp nx a) (t : TypeId) (x : Operand) (hop : o.op = .load t x) (i : TI) (hi : TIok P t i) (hx : sat (ρ x) c [a.eval x]) :
    GoodR P W0 X N c fr hp nx a o (loadR i hp (ρ x)) := by
  have fin : ∀ (v : AV) (y : Value), (Instr.loadAt t (a.eval x)).run P c.w = .ok y c.w → sat v c [y] → OKv P c a o v := fun v y hr hv => by
    refine ⟨y, ?_, hv⟩
    unfold execOp; rw [hop]
    simp only [Sem.run_bind, hr, Result.andThen_ok, Sem.run_pure]
  generalize ρ x = r at hx
  cases r with
  | ptr j q =>
    simp only [loadR]
    cases hj : getAO hp j with
    | cells l =>
      simp only []
      cases hag : i.ag with
      | true =>
        simp only [cond_true]
        refine lift_good fun p hp' => ?_
        obtain ⟨b, cs, ty, _, _, e, _, _, hle, hsp, hr⟩ := h.cells hx hj hp'
        refine fin _ _ ?_ ⟨((cs.toList.drop q).take i.sz).toArray, rfl, by simpa using hsp⟩
        rw [e]
        exact run_load c.w b q t i hi _ hr (by simp; omega) hag
      | false =>
        simp only [cond_false]
        refine lift_good fun v hv => ?_
        simp only [Option.bind_eq_some_iff] at hv
        obtain ⟨p, hp', hn⟩ := hv
        obtain ⟨b, cs, ty, _, _, e, _, _, hle, hsp, hr⟩ := h.cells hx hj hp'
        obtain ⟨y, hy, hsy⟩ := nth_ok p 0 hn hsp
        refine fin _ y ?_ hsy
        rw [e]
        exact run_load1 c.w b q t i hi y (by simpa using hr 0 y hy) hag
    | _ => trivial
  | rp k e q =>
    obtain ⟨b, q0, hv, hO, hb, hc⟩ := hx
    have hv' : a.eval x = .pointer (some ⟨b, q0 + q, none⟩) := by simpa using hv
    simp only [loadR]
    cases hag : i.ag with
    | true =>
      simp only [cond_true]
      cases hle : Nat.ble (q + i.sz) k with
      | false => trivial
      | true =>
        have hle' : q + i.sz ≤ k := Nat.le_of_ble_eq_true hle
        simp only [cond_true]
        have hg : ∀ m, ∀ j0, j0 + m ≤ k → ∃ cs : List Value, cs.length = m ∧ ∀ j, j < m → ∃ y, cs[j]? = some y ∧ c.w.cell? ⟨b, q0 + (j0 + j), none⟩ = some y ∧ sat (e (j0 + j)) c.bare [y] := by
          intro m
          induction m with
          | zero => exact fun j0 _ => ⟨[], rfl, fun j hj => absurd hj (Nat.not_lt_zero _)⟩
          | succ m ih =>
            intro j0 hj0
            obtain ⟨y, hy, hsy⟩ := hc j0 (by omega)
            obtain ⟨cs, hl, hcs⟩ := ih (j0 + 1) (by omega)
            refine ⟨y :: cs, by simp [hl], fun j hj => ?_⟩
            cases j with
            | zero => exact ⟨y, rfl, hy, hsy⟩
            | succ j =>
              obtain ⟨z, hz, h1, h2⟩ := hcs j (by omega)
              exact ⟨z, by simpa using hz, by rw [show q0 + (j0 + (j + 1)) = q0 + (j0 + 1 + j) by omega]; exact h1, by rw [show j0 + (j + 1) = j0 + 1 + j by omega]; exact h2⟩
        obtain ⟨cs, hl, hcs⟩ := hg i.sz q hle'
        refine fin _ (.agg cs.toArray) ?_ ⟨cs.toArray, rfl, ofFn_ok i.sz q hl fun j hj => ?_⟩
        · rw [hv']
          refine run_load c.w b (q0 + q) t i hi cs (fun j v hj => ?_) hl hag
          have hjl : j < i.sz := by rw [← hl]; exact (List.getElem?_eq_some_iff.1 hj).1
          obtain ⟨y, hy, hcell, _⟩ := hcs j hjl
          rw [hj] at hy; injection hy with hy; subst hy
          rw [show q0 + q + j = q0 + (q + j) by omega]; exact hcell
        · obtain ⟨y, hy, _, hsy⟩ := hcs j hj
          exact ⟨y, by simpa using hy, sat_bare _ hsy⟩
    | false =>
      simp only [cond_false]
      cases hlt : Nat.blt q k with
      | false => trivial
      | true =>
        have hlt' : q < k := by simpa [Nat.blt_eq] using hlt
        obtain ⟨y, hy, hsy⟩ := hc q hlt'
        refine fin _ y ?_ (sat_bare _ hsy)
        rw [hv']
        exact run_load1 c.w b (q0 + q) t i hi y hy hag
  | _ => trivial

theorem good_store (h : Gam W0 X N c fr hp nx a) (t : TypeId) (x y : Operand) (hop : o.op = .store t x y) (i : TI) (hi : TIok P t i) (hx : sat (ρ x) c [a.eval x]) (hy : sat (ρ y) c [a.eval y]) :
    GoodR P W0 X N c fr hp nx a o (storeR i hp (ρ x) (ρ y)) := by
  unfold storeR
  generalize ρ x = r at hx
  cases r with
  | ptr j q =>
    cases hl : cellsOf (ρ y) with
    | none => trivial
    | some l' =>
      simp only []
      cases hsz : lenIs l' i.sz with
      | false => trivial
      | true =>
        simp only [cond_true]
        cases hj : getAO hp j with
        | cells l =>
          simp only []
          refine lift_good fun l2 hl2 => ?_
          intro hjl
          obtain ⟨hs', hone⟩ := cellsOf_ok hl hy
          obtain ⟨hjn, b, hk, e⟩ := hx
          have e' : a.eval x = .pointer (some ⟨b, q, none⟩) := by simpa using e
          obtain ⟨b', cs, ty, hk', hh, hs⟩ := h.o j _ (getAO_ok hp j hj)
          rw [hk] at hk'; injection hk' with hk'; subst hk'
          obtain ⟨hle, hs2⟩ := setc_ok l q l' hl2 hs hs'
          have hlen := lenIs_ok l' i.sz hsz hs'
          obtain ⟨c', hw, hg⟩ := h.setO (l := l2) (cs := (cs.toList.take q ++ (a.eval y).cells.toList ++ cs.toList.drop (q + (a.eval y).cells.toList.length)).toArray) hjn hk hh (by simpa using hs2)
          refine ⟨c', ?_, hg, rfl⟩
          have hrun := run_storeCells_at (P := P) b q ty (a.eval y).cells.toList 0 cs c.w hh (by simpa using hle) hone
          have hsize : (sizeOf t).run P c.w = .ok i.sz c.w := by
            have := hi.sz
            cases hq : P.info? t with
            | none => simp [hq] at this
            | some ti => simp [hq] at this; simp [sizeOf, typeInfo, hq, this, Sem.run_bind]
          have hne : ¬ ((a.eval y).cells.size ≠ i.sz) := by
            intro hh; apply hh; simpa using hlen
          unfold execOp; rw [hop]
          simp only [Sem.run_bind, e', Instr.storeAt, Instr.sureAddr, Sem.run_pure, Result.andThen_ok, storeVar, hsize, if_neg hne, hrun]
          simp only [Nat.add_zero, hw]
        | _ => trivial
  | _ => trivial

end

end Go.Proofs.Ythlkhjfilfdpiaa.Eng
