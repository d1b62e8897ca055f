/- ENGINE 2, 6: an operation, a list of operations, a code. -/
import Derived.Test.YthlkhjfilfdpiaaF5E
import Derived.Test.YthlkhjfilfdpiaaF5F
namespace Go.Proofs.Ythlkhjfilfdpiaa.Eng
set_option linter.unusedVariables false
set_option linter.unusedSimpArgs false
open Go Go.RowKit

structure EnvOk (P : Program) (E : Env) : Prop where
  ty : ∀ t i, tyOf E.ty t = some i → TIok P t i
  call : CallOk P E.call

section
variable {P : Program} {E : Env} {W0 : World} {X : Bd} {c : Cx} {fr : Fr} {hp : List AO} {nx : Nat} {a : Act} {o : Oper} {ρ : Operand → AV}

theorem eval_good (hE : EnvOk P E) (h : Gam W0 X E.N c fr hp nx a) (op : Op) (hop : o.op = op) (hx : ∀ x ∈ op.operands.toList, sat (ρ x) c [a.eval x]) :
    GoodR P W0 X E.N c fr hp nx a o (evalOp E ρ hp nx op) := by
  cases op <;> simp only [evalOp] <;> try trivial
  case move x => exact good_move x (.inl hop) (hx x (by simp [Op.operands]))
  case assign x => exact good_move x (.inr hop) (hx x (by simp [Op.operands]))
  case box t x => exact good_box h t x hop (hx x (by simp [Op.operands]))
  case alloc t =>
    split
    · rename_i i hi
      split
      · exact good_alloc h t hop i (hE.ty _ _ hi) _ ‹_›
      · trivial
    · trivial
  case build t parts =>
    have hps : ∀ p ∈ parts.toList, sat (ρ p.2) c [a.eval p.2] := fun p hp' => hx p.2 (by simp [Op.operands]; exact ⟨p.1, by simpa using hp'⟩)
    split
    · rename_i i hi
      split
      · rename_i z hz
        cases hk : Nat.beq i.kd 1 with
        | true => exact good_build t parts hop i (hE.ty _ _ hi) z hz _ (fun cs hf => built_struct (hE.ty _ _ hi) (Nat.eq_of_beq_eq_true hk) hz hf) hps
        | false =>
          simp only [cond_false]
          cases hk2 : Nat.beq i.kd 2 with
          | true =>
            simp only [cond_true]
            split
            · rename_i ie hie
              exact good_build t parts hop i (hE.ty _ _ hi) z hz _ (fun cs hf => built_array (hE.ty _ _ hi) (Nat.eq_of_beq_eq_true hk2) (hE.ty _ _ hie) hz hf) hps
            · trivial
          | false => trivial
      · trivial
    · trivial
  case load t x =>
    split
    · rename_i i hi
      exact good_load h t x hop i (hE.ty _ _ hi) (hx x (by simp [Op.operands]))
    · trivial
  case store t x y =>
    split
    · rename_i i hi
      exact good_store h t x y hop i (hE.ty _ _ hi) (hx x (by simp [Op.operands])) (hx y (by simp [Op.operands]))
    · trivial
  case binOp op t x y t' => exact good_binR hE.ty op t t' x y hop (hx x (by simp [Op.operands])) (hx y (by simp [Op.operands]))
  case convert s t x =>
    split
    · rename_i is i k z his hi hz
      have hx1 := hx x (by simp [Op.operands])
      rw [hz] at hx1
      split
      · rename_i kk hk
        exact good_convert hE.ty s t x hop (hE.ty _ _ his) (hE.ty _ _ hi) (by simpa [sat] using hx1) hk
      · trivial
    · rename_i is i his hi hz
      exact good_conv hE.ty h s t x hop (hE.ty _ _ his) (hE.ty _ _ hi) (hx x (by simp [Op.operands]))
    · trivial
  case makeFunc f first cap =>
    cases f <;> simp only [evalOp] <;> try trivial
    rename_i f
    cases hf : first.isEmpty with
    | false => trivial
    | true => exact good_makeFunc f first cap hop hf fun p hp' => hx p (by simp [Op.operands]; exact .inr (by simpa using hp'))
  case slice t x lo hi mx =>
    have hxl : ∀ p, lo = some p → sat (ρ p) c [a.eval p] := fun p hp' => hx p (by simp [Op.operands, hp'])
    have hxh : ∀ p, hi = some p → sat (ρ p) c [a.eval p] := fun p hp' => hx p (by simp [Op.operands, hp'])
    have hxm : ∀ p, mx = some p → sat (ρ p) c [a.eval p] := fun p hp' => hx p (by simp [Op.operands, hp'])
    have hx1 := hx x (by simp [Op.operands])
    split
    · rename_i i hi'
      split
      · rename_i ie hie
        exact good_slice t x lo hi mx hop i (hE.ty _ _ hi') ie.sz ie.ro (fun w _ => run_sizeOf (hE.ty _ _ hie) w) hx1 hxl hxh hxm
      · rename_i hel hk5
        have hkd := Nat.eq_of_beq_eq_true hk5
        generalize hr : ρ x = r at hx1
        cases r with
        | v y =>
          cases y with
          | string s =>
            have key := good_slice (ρ := ρ) (W0 := W0) (X := X) (N := E.N) (fr := fr) (hp := hp) (nx := nx) t x lo hi mx hop i (hE.ty _ _ hi') 0 none (fun w hk => by omega) (by rw [hr]; exact hx1) hxl hxh hxm
            rw [hr] at key
            exact key
          | slice A n m =>
            cases A with
            | none => simp only [sliceR, hkd]; trivial
            | some ad => trivial
          | _ => trivial
        | ptr j q => simp only [sliceR, hkd]; trivial
        | sc j q n m τ => simp only [sliceR, hkd]; trivial
        | rl q τ l => simp only [sliceR, hkd]; trivial
        | rc q τ l => simp only [sliceR, hkd]; trivial
        | ow j k n => simp only [sliceR, hkd]; trivial
        | ws j k lo n => simp only [sliceR, hkd]; trivial
        | _ => trivial
      · trivial
    · trivial
  case unOp op t x =>
    split
    · rename_i vx h1
      have hx1 := hx x (by simp [Op.operands])
      rw [h1] at hx1
      exact good_un op t x hop (by simpa [sat] using hx1)
    · trivial
  case nilCheck x => exact good_nilCheck x hop (hx x (by simp [Op.operands]))
  case fieldAddr t x f =>
    split
    · rename_i i hi
      cases hk : Nat.beq i.kd 1 with
      | false => trivial
      | true =>
        simp only [cond_true]
        split
        · rename_i off tf hf
          split
          · rename_i j hj
            cases hz : Nat.blt 0 j.sz with
            | false => trivial
            | true => exact good_fieldAddr t x f hop i (hE.ty _ _ hi) (Nat.eq_of_beq_eq_true hk) hf j (hE.ty _ _ hj) (by simpa [Nat.blt_eq] using hz) (hx x (by simp [Op.operands]))
          · trivial
        · trivial
    · trivial
  case field t x f =>
    split
    · rename_i i l hi hl
      cases hk : Nat.beq i.kd 1 with
      | false => trivial
      | true =>
        simp only [cond_true]
        split
        · rename_i off tf hf
          split
          · rename_i j hj
            have hx1 := hx x (by simp [Op.operands])
            rw [hl] at hx1
            exact good_field t x f hop i (hE.ty _ _ hi) (Nat.eq_of_beq_eq_true hk) hf j (hE.ty _ _ hj) hx1
          · trivial
        · trivial
    · trivial
  case indexAddr t x y =>
    split
    · rename_i i k z hi hz
      split
      · rename_i ie hie
        have hx2 := hx y (by simp [Op.operands])
        rw [hz] at hx2
        exact good_indexAddr h t x y hop i (hE.ty _ _ hi) ie (hE.ty _ _ hie) (hx x (by simp [Op.operands])) (by simpa [sat] using hx2)
      · trivial
    · trivial
  case index t x y =>
    split
    · rename_i i l k z hi hl hz
      cases hk : Nat.beq i.kd 2 with
      | false => trivial
      | true =>
        simp only [cond_true]
        split
        · rename_i ie hie
          have hx1 := hx x (by simp [Op.operands])
          rw [hl] at hx1
          have hx2 := hx y (by simp [Op.operands])
          rw [hz] at hx2
          exact good_index t x y hop i (hE.ty _ _ hi) (Nat.eq_of_beq_eq_true hk) ie (hE.ty _ _ hie) hx1 (by simpa [sat] using hx2)
        · trivial
    · trivial
  case extract x i =>
    split
    · rename_i l hl
      have hx1 := hx x (by simp [Op.operands])
      rw [hl] at hx1
      exact good_extract x i hop hx1
    · trivial
  case call cl =>
    split
    · rename_i f hf
      split
      · rename_i g cap hg
        have hx1 := hx f (by simp [Op.operands, Call.operands, hf])
        rw [hg] at hx1
        have key := good_call (W0 := W0) (X := X) (fr := fr) (hp := hp) (nx := nx) hE.call h cl hop f hf g _ hx1 (fun p hp' => hx p (by simp [Op.operands, Call.operands, hf]; exact .inr (by simpa using hp')))
        split
        · rename_i f0
          cases hf0 : Nat.beq f0 g with
          | true => exact key
          | false => trivial
        · cases hfr : E.free g with
          | true => trivial
          | false => exact key
      · trivial
    · rename_i b hb
      exact good_callB hE.ty h hop hb (by simpa using sat_list cl.args.toList fun p hp' => hx p (by simp [Op.operands, Call.operands, hb]; simpa using hp'))
    · trivial
  case makeSlice t x y =>
    split
    · rename_i i kx n ky m hi hn hm
      split
      · rename_i ie hie
        split
        · rename_i ro z hro hz
          cases hk : (Nat.beq i.kd 3 && Nat.blt 0 ie.sz && Nat.ble ie.by_ 100000) with
          | false => trivial
          | true =>
            simp only [Bool.and_eq_true] at hk
            have hx1 := hx x (by simp [Op.operands])
            rw [hn] at hx1
            have hx2 := hx y (by simp [Op.operands])
            rw [hm] at hx2
            exact good_makeSlice h t x y hop (hE.ty _ _ hi) (Nat.eq_of_beq_eq_true hk.1.1) (hE.ty _ _ hie) hro (by simpa [Nat.blt_eq] using hk.1.2) (Nat.le_of_ble_eq_true hk.2) hz (by simpa [sat] using hx1) (by simpa [sat] using hx2)
        · trivial
      · trivial
    · trivial
  case buildSlice t n parts =>
    have hps : ∀ p ∈ parts.toList, sat (ρ p.2) c [a.eval p.2] := fun p hp' => hx p.2 (by simp [Op.operands]; exact ⟨p.1, by simpa using hp'⟩)
    split
    · rename_i i hi
      split
      · rename_i ie hie
        split
        · rename_i ro z hro hz
          cases hk : (Nat.beq i.kd 3 && Nat.blt 0 ie.sz && Nat.ble n 10000 && Nat.ble ie.sz 1000) with
          | false => trivial
          | true =>
            simp only [Bool.and_eq_true] at hk
            simp only [cond_true]
            split
            · rename_i l hl
              rw [decN_eq]
              split
              · rename_i pr hpr
                obtain ⟨q, xs⟩ := pr
                obtain ⟨key, _⟩ := good_lit h t n parts hop (hE.ty _ _ hi) (Nat.eq_of_beq_eq_true hk.1.1.1) (hE.ty _ _ hie) hro (by simpa [Nat.blt_eq] using hk.1.1.2) (Nat.le_of_ble_eq_true hk.1.2) (Nat.le_of_ble_eq_true hk.2) hz hps hl hpr
                obtain ⟨c', hrun, hG, hs⟩ := key
                split
                · rename_i hnil
                  rw [hnil] at hG
                  exact ⟨_, c', hrun, by rw [nx_len h]; exact hG, hs⟩
                · intro _
                  rw [snoc_eq]
                  exact ⟨_, c', hrun, hG, hs⟩
              · trivial
            · trivial
        · trivial
      · trivial
    · trivial

/-- An object that comes at a place that was kept. -/
theorem good_newAt (hE : EnvOk P E) (h : Gam W0 X E.N c fr hp nx a) {sl : Nat} (hv : hp[sl]? = some .void) {v : AV} {ob : AO} (he : evalOp E ρ hp sl o.op = .new v ob) (hnew : isNew o = true) (hx : ∀ x ∈ o.op.operands.toList, sat (ρ x) c [a.eval x]) :
    ∃ x c', (execOp a.eval o).run P c.w = .ok (.value x) c'.w ∧ Gam W0 X E.N c' fr (hp.set sl ob) nx a ∧ sat v c' [x] := by
  unfold isNew at hnew
  simp only [Bool.and_eq_true] at hnew
  have h2 := hnew.2
  split at h2
  · rename_i t hop
    rw [hop] at he
    simp only [evalOp] at he
    split at he
    · rename_i i hi
      split at he
      · rename_i z hz
        injection he with h1 h2
        subst h1 h2
        obtain ⟨c', hw, hg, hs⟩ := h.cells (t := t) (l := ofValues z.cells.toList) (cs := z.cells) (ofValues_ok c _) (.inr ⟨hv, rfl, rfl⟩)
        refine ⟨_, c', ?_, by rw [nx_set h]; exact hg, hs⟩
        unfold execOp; rw [hop]
        simp only [Sem.run_bind, run_alloc (hE.ty _ _ hi) hz, Result.andThen_ok, Sem.run_pure, hw]
      · cases he
    · cases he
  · rename_i t x hop
    rw [hop] at he hx
    simp only [evalOp] at he
    have hx1 := hx x (by simp [Op.operands])
    cases hl : cellsOf (ρ x) with
    | none => simp [hl, lift] at he
    | some l =>
      simp only [hl, lift] at he
      injection he with h1 h2
      subst h1 h2
      obtain ⟨c', hw, hg, hs⟩ := h.cells (t := t) (cellsOf_ok hl hx1).1 (.inr ⟨hv, rfl, rfl⟩)
      refine ⟨_, c', ?_, by rw [nx_set h]; exact hg, hs⟩
      unfold execOp; rw [hop]
      simp only [Sem.run_bind, run_box, Result.andThen_ok, Sem.run_pure, hw]
  · rename_i t n parts hop
    rw [hop] at he hx
    simp only [evalOp] at he
    have hps : ∀ p ∈ parts.toList, sat (ρ p.2) c [a.eval p.2] := fun p hp' => hx p.2 (by simp [Op.operands]; exact ⟨p.1, by simpa using hp'⟩)
    split at he
    · rename_i i hi
      split at he
      · rename_i ie hie
        split at he
        · rename_i ro z hro hz
          cases hk : (Nat.beq i.kd 3 && Nat.blt 0 ie.sz && Nat.ble n 10000 && Nat.ble ie.sz 1000) with
          | false => rw [hk] at he; cases he
          | true =>
            rw [hk] at he
            simp only [Bool.and_eq_true] at hk
            simp only [cond_true] at he
            split at he
            · rename_i l hl
              rw [decN_eq] at he
              split at he
              · rename_i pr hpr
                obtain ⟨q, xs⟩ := pr
                obtain ⟨_, key⟩ := good_lit h t n parts hop (hE.ty _ _ hi) (Nat.eq_of_beq_eq_true hk.1.1.1) (hE.ty _ _ hie) hro (by simpa [Nat.blt_eq] using hk.1.1.2) (Nat.le_of_ble_eq_true hk.1.2) (Nat.le_of_ble_eq_true hk.2) hz hps hl hpr
                split at he
                · rename_i hnil
                  injection he with h1 h2
                  subst h1 h2
                  obtain ⟨c', hrun, hG, hs⟩ := key hnil sl hv
                  exact ⟨_, c', hrun, hG, hs⟩
                · cases he
              · cases he
            · cases he
        · cases he
      · cases he
    · cases he
  · cases h2

/-- What an operand's value is, when its guard holds. -/
theorem raw_sat (h : Gam W0 X E.N c fr hp nx a) (x : Operand) (hg : ∀ g, x ≠ .global g) : sat (raw fr x) c [a.eval x] := by
  cases x with
  | tmp t => exact h.f t
  | const v => rfl
  | func f => exact ⟨#[], rfl, rfl⟩
  | global g => exact absurd rfl (hg g)
theorem raw_global (g : Nat) : sat (raw fr (.global g)) c [a.eval (.global g)] := ⟨_, rfl⟩
theorem raw_ok (h : Gam W0 X E.N c fr hp nx a) (x : Operand) : sat (raw fr x) c [a.eval x] := by
  cases x with
  | global g => exact raw_global g
  | _ => exact raw_sat h _ (by intro g; simp)

theorem obs_ok (h : Gam W0 X E.N c fr hp nx a) {g : Bool} (hg : g = true) : ∀ (l : List Operand) {K : Prop}, obs fr g l K → (∀ x ∈ l, sat (opd fr x) c [a.eval x]) ∧ K
  | [], K, hk => ⟨fun x hx => absurd hx (by simp), hk⟩
  | x :: r, K, hk => by
    have hr := raw_ok h x
    unfold obs at hk
    have key : ∀ (b : Bool) (y : AV), raw fr x = .gd b y → b = true → sat (opd fr x) c [a.eval x] := fun b y e hb => by
      rw [e] at hr
      obtain ⟨z, hz, h1, _⟩ := hr
      simp only [opd, e, strip]
      have : a.eval x = z := by simpa using hz
      rw [this]; exact h1 hb
    have key2 : (∀ b y, raw fr x ≠ .gd b y) → sat (opd fr x) c [a.eval x] := fun hne => by
      have : strip (raw fr x) = raw fr x := by
        cases hq : raw fr x <;> first | rfl | exact absurd hq (hne _ _)
      simp only [opd, this]; exact hr
    split at hk
    · rename_i b y e
      obtain ⟨hsat, hK⟩ := obs_ok h hg r hk.2
      exact ⟨fun z hz => (List.mem_cons.1 hz).elim (fun e' => e' ▸ key b y e (hk.1 hg)) (hsat z), hK⟩
    · rename_i hne
      obtain ⟨hsat, hK⟩ := obs_ok h hg r hk
      exact ⟨fun z hz => (List.mem_cons.1 hz).elim (fun e' => e' ▸ key2 (fun b y e => hne b y e)) (hsat z), hK⟩

/-- The guards' conditions alone: what is behind them, whatever g is. -/
theorem obs_K {g : Bool} : ∀ (l : List Operand) {K : Prop}, obs fr g l K → K
  | [], K, hk => hk
  | x :: r, K, hk => by
    unfold obs at hk
    split at hk
    · exact obs_K r hk.2
    · exact obs_K r hk
end

end Go.Proofs.Ythlkhjfilfdpiaa.Eng
