/- ENGINE, 6: an operation, a list of operations, a code. -/
import Derived.Test.YthlkhjfilfdpiaaE5B
namespace Go.Proofs.Ythlkhjfilfdpiaa.Eng
set_option linter.unusedVariables false
set_option linter.unusedSimpArgs false
open Go Go.RowKit

structure EnvOk (P : Program) (E : Env) : Prop where
  ty : ∀ t i, tyOf E.ty t = some i → TIok P t i
  call : CallOk P E.call

section
variable {P : Program} {E : Env} {W0 : World} {X : Bd} {c : Cx} {fr : Fr} {hp : List AO} {nx : Nat} {a : Act} {o : Oper} {ρ : Operand → AV}

theorem eval_good (hE : EnvOk P E) (h : Gam W0 X E.N c fr hp nx a) (op : Op) (hop : o.op = op) (hx : ∀ x ∈ op.operands.toList, sat (ρ x) c [a.eval x]) :
    GoodR P W0 X E.N c fr hp nx a o (evalOp E ρ hp nx op) := by
  cases op <;> simp only [evalOp] <;> try trivial
  case move x => exact good_move x (.inl hop) (hx x (by simp [Op.operands]))
  case assign x => exact good_move x (.inr hop) (hx x (by simp [Op.operands]))
  case box t x => exact good_box h t x hop (hx x (by simp [Op.operands]))
  case alloc t =>
    split
    · rename_i i hi
      split
      · exact good_alloc h t hop i (hE.ty _ _ hi) _ ‹_›
      · trivial
    · trivial
  case build t parts =>
    have hps : ∀ p ∈ parts.toList, sat (ρ p.2) c [a.eval p.2] := fun p hp' => hx p.2 (by simp [Op.operands]; exact ⟨p.1, by simpa using hp'⟩)
    split
    · rename_i i hi
      split
      · rename_i z hz
        cases hk : Nat.beq i.kd 1 with
        | true => exact good_build t parts hop i (hE.ty _ _ hi) z hz _ (fun cs hf => built_struct (hE.ty _ _ hi) (Nat.eq_of_beq_eq_true hk) hz hf) hps
        | false =>
          simp only [cond_false]
          cases hk2 : Nat.beq i.kd 2 with
          | true =>
            simp only [cond_true]
            split
            · rename_i ie hie
              exact good_build t parts hop i (hE.ty _ _ hi) z hz _ (fun cs hf => built_array (hE.ty _ _ hi) (Nat.eq_of_beq_eq_true hk2) (hE.ty _ _ hie) hz hf) hps
            · trivial
          | false => trivial
      · trivial
    · trivial
  case load t x =>
    split
    · rename_i i hi
      exact good_load h t x hop i (hE.ty _ _ hi) (hx x (by simp [Op.operands]))
    · trivial
  case store t x y =>
    split
    · rename_i i hi
      exact good_store h t x y hop i (hE.ty _ _ hi) (hx x (by simp [Op.operands])) (hx y (by simp [Op.operands]))
    · trivial
  case binOp op t x y t' => exact good_binR hE.ty op t t' x y hop (hx x (by simp [Op.operands])) (hx y (by simp [Op.operands]))
  case convert s t x =>
    split
    · rename_i is i k z his hi hz
      have hx1 := hx x (by simp [Op.operands])
      rw [hz] at hx1
      split
      · rename_i kk hk
        exact good_convert hE.ty s t x hop (hE.ty _ _ his) (hE.ty _ _ hi) (by simpa [sat] using hx1) hk
      · trivial
    · trivial
  case makeFunc f first cap =>
    cases f <;> simp only [evalOp] <;> try trivial
    rename_i f
    cases hf : first.isEmpty with
    | false => trivial
    | true => exact good_makeFunc f first cap hop hf fun p hp' => hx p (by simp [Op.operands]; exact .inr (by simpa using hp'))
  case slice t x lo hi mx =>
    have hxl : ∀ p, lo = some p → sat (ρ p) c [a.eval p] := fun p hp' => hx p (by simp [Op.operands, hp'])
    have hxh : ∀ p, hi = some p → sat (ρ p) c [a.eval p] := fun p hp' => hx p (by simp [Op.operands, hp'])
    have hxm : ∀ p, mx = some p → sat (ρ p) c [a.eval p] := fun p hp' => hx p (by simp [Op.operands, hp'])
    have hx1 := hx x (by simp [Op.operands])
    split
    · rename_i i hi'
      split
      · rename_i ie hie
        exact good_slice t x lo hi mx hop i (hE.ty _ _ hi') ie.sz (fun w _ => run_sizeOf (hE.ty _ _ hie) w) hx1 hxl hxh hxm
      · rename_i hel hk5
        exact good_slice t x lo hi mx hop i (hE.ty _ _ hi') 0 (fun w hk => by have := Nat.eq_of_beq_eq_true hk5; omega) hx1 hxl hxh hxm
      · trivial
    · trivial
  case unOp op t x =>
    split
    · rename_i vx h1
      have hx1 := hx x (by simp [Op.operands])
      rw [h1] at hx1
      exact good_un op t x hop (by simpa [sat] using hx1)
    · trivial
  case nilCheck x => exact good_nilCheck x hop (hx x (by simp [Op.operands]))
  case fieldAddr t x f =>
    split
    · rename_i i hi
      cases hk : Nat.beq i.kd 1 with
      | false => trivial
      | true =>
        simp only [cond_true]
        split
        · rename_i off tf hf
          split
          · rename_i j hj
            cases hz : Nat.blt 0 j.sz with
            | false => trivial
            | true => exact good_fieldAddr t x f hop i (hE.ty _ _ hi) (Nat.eq_of_beq_eq_true hk) hf j (hE.ty _ _ hj) (by simpa [Nat.blt_eq] using hz) (hx x (by simp [Op.operands]))
          · trivial
        · trivial
    · trivial
  case field t x f =>
    split
    · rename_i i l hi hl
      cases hk : Nat.beq i.kd 1 with
      | false => trivial
      | true =>
        simp only [cond_true]
        split
        · rename_i off tf hf
          split
          · rename_i j hj
            have hx1 := hx x (by simp [Op.operands])
            rw [hl] at hx1
            exact good_field t x f hop i (hE.ty _ _ hi) (Nat.eq_of_beq_eq_true hk) hf j (hE.ty _ _ hj) hx1
          · trivial
        · trivial
    · trivial
  case indexAddr t x y =>
    split
    · rename_i i k z hi hz
      split
      · rename_i ie hie
        have hx2 := hx y (by simp [Op.operands])
        rw [hz] at hx2
        exact good_indexAddr h t x y hop i (hE.ty _ _ hi) ie (hE.ty _ _ hie) (hx x (by simp [Op.operands])) (by simpa [sat] using hx2)
      · trivial
    · trivial
  case index t x y =>
    split
    · rename_i i l k z hi hl hz
      cases hk : Nat.beq i.kd 2 with
      | false => trivial
      | true =>
        simp only [cond_true]
        split
        · rename_i ie hie
          have hx1 := hx x (by simp [Op.operands])
          rw [hl] at hx1
          have hx2 := hx y (by simp [Op.operands])
          rw [hz] at hx2
          exact good_index t x y hop i (hE.ty _ _ hi) (Nat.eq_of_beq_eq_true hk) ie (hE.ty _ _ hie) hx1 (by simpa [sat] using hx2)
        · trivial
    · trivial
  case extract x i =>
    split
    · rename_i l hl
      have hx1 := hx x (by simp [Op.operands])
      rw [hl] at hx1
      exact good_extract x i hop hx1
    · trivial
  case call cl =>
    split
    · rename_i f hf
      split
      · rename_i g cap hg
        split
        · rename_i r hr
          have hx1 := hx f (by simp [Op.operands, Call.operands, hf])
          rw [hg] at hx1
          exact good_call E.call hE.call h.ol cl hop f hf g _ hx1 (fun p hp' => hx p (by simp [Op.operands, Call.operands, hf]; exact .inr (by simpa using hp'))) r hr
        · trivial
      · trivial
    · rename_i b hb
      exact good_callB hE.ty h hop hb (by simpa using sat_list cl.args.toList fun p hp' => hx p (by simp [Op.operands, Call.operands, hb]; simpa using hp'))
    · trivial

/-- What an operand's value is, when its guard holds. -/
theorem raw_sat (h : Gam W0 X E.N c fr hp nx a) (x : Operand) (hg : ∀ g, x ≠ .global g) : sat (raw fr x) c [a.eval x] := by
  cases x with
  | tmp t => exact h.f t
  | const v => rfl
  | func f => exact ⟨#[], rfl, rfl⟩
  | global g => exact absurd rfl (hg g)
theorem raw_global (g : Nat) : sat (raw fr (.global g)) c [a.eval (.global g)] := ⟨_, rfl⟩
theorem raw_ok (h : Gam W0 X E.N c fr hp nx a) (x : Operand) : sat (raw fr x) c [a.eval x] := by
  cases x with
  | global g => exact raw_global g
  | _ => exact raw_sat h _ (by intro g; simp)

theorem obs_ok (h : Gam W0 X E.N c fr hp nx a) {g : Bool} (hg : g = true) : ∀ (l : List Operand) {K : Prop}, obs fr g l K → (∀ x ∈ l, sat (opd fr x) c [a.eval x]) ∧ K
  | [], K, hk => ⟨fun x hx => absurd hx (by simp), hk⟩
  | x :: r, K, hk => by
    have hr := raw_ok h x
    unfold obs at hk
    have key : ∀ (b : Bool) (y : AV), raw fr x = .gd b y → b = true → sat (opd fr x) c [a.eval x] := fun b y e hb => by
      rw [e] at hr
      obtain ⟨z, hz, h1, _⟩ := hr
      simp only [opd, e, strip]
      have : a.eval x = z := by simpa using hz
      rw [this]; exact h1 hb
    have key2 : (∀ b y, raw fr x ≠ .gd b y) → sat (opd fr x) c [a.eval x] := fun hne => by
      have : strip (raw fr x) = raw fr x := by
        cases hq : raw fr x <;> first | rfl | exact absurd hq (hne _ _)
      simp only [opd, this]; exact hr
    split at hk
    · rename_i b y e
      obtain ⟨hsat, hK⟩ := obs_ok h hg r hk.2
      exact ⟨fun z hz => (List.mem_cons.1 hz).elim (fun e' => e' ▸ key b y e (hk.1 hg)) (hsat z), hK⟩
    · rename_i hne
      obtain ⟨hsat, hK⟩ := obs_ok h hg r hk
      exact ⟨fun z hz => (List.mem_cons.1 hz).elim (fun e' => e' ▸ key2 (fun b y e => hne b y e)) (hsat z), hK⟩

/-- The guards' conditions alone: what is behind them, whatever g is. -/
theorem obs_K {g : Bool} : ∀ (l : List Operand) {K : Prop}, obs fr g l K → K
  | [], K, hk => hk
  | x :: r, K, hk => by
    unfold obs at hk
    split at hk
    · exact obs_K r hk.2
    · exact obs_K r hk
end

end Go.Proofs.Ythlkhjfilfdpiaa.Eng
