/- ENGINE: types whose values are equal where all their cells are. -/
import Derived.Handy
import Derived.Laws.StructEq
import Derived.Deep.MidRow
namespace Go.Proofs.Ythlkhjfilfdpiaa.Eng
set_option linter.unusedVariables false
set_option linter.unusedSimpArgs false
open Go Go.RowKit

/-- The fields, one behind the other. -/
def flatF (g : TypeId → Option (List Nat)) : Nat → List Field → Option (List Nat)
  | _, [] => some []
  | off, f :: fs => if f.name = "_" ∨ f.offset ≠ off then none else match g f.type with
    | some l => (flatF g (off + l.length) fs).map (l ++ ·)
    | none => none
def reps (l : List Nat) : Nat → List Nat
  | 0 => []
  | n + 1 => l ++ reps l n
/-- The kinds of a type's cells: 0 a number, 1 a Bool, 2 a string. -/
def flatD (P : Program) : Nat → TypeId → Option (List Nat)
  | 0, _ => none
  | d + 1, t => match P.underlying t, P.info? t with
    | some (.int _), some _ => some [0]
    | some .bool, some _ => some [1]
    | some .string, some _ => some [2]
    | some (.struct fs), some i => if P.stoodInHeld t then none else match flatF (flatD P d) 0 fs.toList with
      | some l => if l.length = i.size then some l else none
      | none => none
    | some (.array n e), some i => match flatD P d e with
      | some l => if (P.info? e).map (·.size) = some l.length ∧ n * l.length = i.size then some (reps l n) else none
      | none => none
    | _, _ => none

def leafV : Nat → Value → Value → Option Bool
  | 0, .int k a, .int l b => if k = l then some (a == b) else none
  | 1, .bool a, .bool b => some (a == b)
  | 2, .string a, .string b => some (a.toList == b.toList)
  | _, _, _ => none
def eqV : List Nat → List Value → List Value → Option Bool
  | [], [], [] => some true
  | t :: ts, a :: x, b :: y => match leafV t a b, eqV ts x y with
    | some p, some q => some (p && q)
    | _, _ => none
  | _, _, _ => none

theorem eqV_len : ∀ (ks : List Nat) (xs ys : List Value) {b : Bool}, eqV ks xs ys = some b → xs.length = ks.length ∧ ys.length = ks.length
  | [], [], [], _, _ => ⟨rfl, rfl⟩
  | t :: ts, a :: x, b :: y, r, h => by
    simp only [eqV] at h
    split at h
    · rename_i p q hp hq
      have := eqV_len ts x y hq
      simp [this]
    · cases h
  | [], _ :: _, _, _, h => by cases h
  | [], [], _ :: _, _, h => by cases h
  | _ :: _, [], _, _, h => by cases h
  | _ :: _, _ :: _, [], _, h => by cases h

/-- Cells of two kinds, one behind the other. -/
theorem eqV_app : ∀ (ks ls : List Nat) (xs ys : List Value) {b : Bool}, eqV (ks ++ ls) xs ys = some b →
    ∃ p q, eqV ks (xs.take ks.length) (ys.take ks.length) = some p ∧ eqV ls (xs.drop ks.length) (ys.drop ks.length) = some q ∧ b = (p && q)
  | [], ls, xs, ys, b, h => ⟨true, b, by simp [eqV], by simpa using h, by simp⟩
  | k :: ks, ls, x :: xs, y :: ys, b, h => by
    simp only [List.cons_append, eqV] at h
    split at h
    · rename_i p q hp hq
      obtain ⟨p', q', h1, h2, rfl⟩ := eqV_app ks ls xs ys hq
      injection h with h
      refine ⟨p && p', q', ?_, by simpa using h2, by rw [← h, Bool.and_assoc]⟩
      simp [eqV, hp, h1]
    · cases h
  | k :: ks, ls, [], ys, b, h => by cases ys <;> cases h
  | k :: ks, ls, x :: xs, [], b, h => by cases h

section
variable {P : Program}

/-- Of a type that has one cell, or a row of cells: the part at a place, of both, is equal as the cells are. -/
def PartEq (P : Program) (e : Nat) (t : TypeId) (ks : List Nat) : Prop :=
  ∀ (w : World) (xs ys : Array Value) (off : Nat) (b : Bool), eqV ks ((xs.toList.drop off).take ks.length) ((ys.toList.drop off).take ks.length) = some b →
    ∃ x y, (part t xs off).run P w = .ok x w ∧ (part t ys off).run P w = .ok y w ∧ (Op.equalIn e t x y).run P w = .ok b w

theorem part_row {t : TypeId} {d : TypeDesc} {i : TypeInfo} (hu : P.underlying t = some d) (hi : P.info? t = some i) (hr : d.isRow = true) (w : World) (xs : Array Value) (off : Nat) : (part t xs off).run P w = .ok (.agg (xs.extract off (off + i.size))) w := by
  have hagg : (isAgg t).run P w = .ok true w := by
    unfold isAgg
    rw [Sem.run_bind, run_underlying hu w]
    cases d <;> simp_all [TypeDesc.isRow]
  simp [part, Sem.run_bind, hagg, sizeOf, typeInfo, hi]
theorem part_leaf {t : TypeId} {d : TypeDesc} (hu : P.underlying t = some d) (hr : d.isRow = false) (w : World) (xs : Array Value) (off : Nat) (x : Value) (hx : xs[off]? = some x) : (part t xs off).run P w = .ok x w := by
  have hagg : (isAgg t).run P w = .ok false w := by
    unfold isAgg
    rw [Sem.run_bind, run_underlying hu w]
    cases d <;> simp_all [TypeDesc.isRow]
  simp [part, Sem.run_bind, hagg, hx]

theorem one_cell {k : Nat} {xs ys : List Value} {b : Bool} (h : eqV [k] xs ys = some b) : ∃ x y, xs = [x] ∧ ys = [y] ∧ leafV k x y = some b := by
  match xs, ys, h with
  | [x], [y], h =>
    refine ⟨x, y, rfl, rfl, ?_⟩
    simp only [eqV] at h
    cases hl : leafV k x y with
    | none => simp [hl] at h
    | some p => simpa [hl] using h
  | [], _, h => cases h
  | _ :: _, [], h => cases h
  | [x], y :: z :: r, h =>
    simp only [eqV] at h
    cases hl : leafV k x y <;> simp [hl] at h
  | x :: z :: r, y :: s, h =>
    simp only [eqV] at h
    cases hl : leafV k x y <;> simp [hl] at h

theorem at_one {xs : Array Value} {off : Nat} {x : Value} (h : (xs.toList.drop off).take 1 = [x]) : xs[off]? = some x := by
  have : ((xs.toList.drop off).take 1)[0]? = some x := by rw [h]; rfl
  simpa [List.getElem?_take, List.getElem?_drop] using this

theorem leaf_eq {e k : Nat} {t : TypeId} {x y : Value} {b : Bool} (w : World) (hl : leafV k x y = some b) (h0 : k = 0 → ∃ q, P.underlying t = some (.int q)) (h1 : k = 1 → P.underlying t = some .bool) (h2 : k = 2 → P.underlying t = some .string) :
    (Op.equalIn (e + 1) t x y).run P w = .ok b w := by
  unfold leafV at hl
  split at hl
  · obtain ⟨q, hq⟩ := h0 rfl
    split at hl
    · rename_i hk
      subst hk
      injection hl with hl
      rw [run_equalIn_int w e t _ q _ _ hq, hl]
    · cases hl
  · injection hl with hl
    rw [run_equalIn_bool' w e t _ _ (h1 rfl), hl]
  · injection hl with hl
    rw [run_equalIn_string w e t _ _ (h2 rfl), hl]
  · cases hl

theorem fields_eq {e d : Nat} (ih : ∀ t ks, flatD P d t = some ks → PartEq P e t ks) (w : World) (xs ys : Array Value) : ∀ (fs : List Field) (off : Nat) (ks : List Nat) (b : Bool), flatF (flatD P d) off fs = some ks → eqV ks (xs.toList.drop off) (ys.toList.drop off) = some b → (Op.eqFields e xs ys fs).run P w = .ok b w
  | [], off, ks, b, h, hb => by
    injection h with h
    subst h
    generalize xs.toList.drop off = l at hb
    generalize ys.toList.drop off = m at hb
    cases l <;> cases m <;> first | (cases hb; simp [Op.eqFields]; done) | (cases hb; done)
  | f :: fs, off, ks, b, h, hb => by
    simp only [flatF] at h
    split at h
    · cases h
    · rename_i hno
      have hn : f.name ≠ "_" := fun hh => hno (.inl hh)
      have ho : f.offset = off := Classical.byContradiction fun hh => hno (.inr hh)
      split at h
      · rename_i l hl
        simp only [Option.map_eq_some_iff] at h
        obtain ⟨m, hm, rfl⟩ := h
        obtain ⟨p, q, h1, h2, rfl⟩ := eqV_app l m _ _ hb
        obtain ⟨x, y, hx, hy, he⟩ := ih _ _ hl w xs ys off p h1
        rw [List.drop_drop, List.drop_drop] at h2
        have hr := fields_eq ih w xs ys fs (off + l.length) m q hm h2
        simp only [Op.eqFields, if_pos hn, ho, Sem.run_bind, hx, hy, he, Result.andThen_ok]
        cases p
        · simp
        · simpa using hr
      · cases h

theorem array_loop {e : Nat} {t : TypeId} {l : List Nat} (h : PartEq P e t l) (w : World) (xs ys : Array Value) : ∀ (n i : Nat) (b : Bool), eqV (reps l n) (xs.toList.drop (i * l.length)) (ys.toList.drop (i * l.length)) = some b →
    ((forIn (List.range' i n 1) ((none, ()) : Option Bool × Unit) fun j r => do
        let a ← part t xs (j * l.length)
        let c ← part t ys (j * l.length)
        let q ← Op.equalIn e t a c
        if (!q) = true then pure (ForInStep.done (some false, ())) else pure (ForInStep.yield (none, ())) : Sem (Option Bool × Unit))).run P w = .ok (if b then (none, ()) else (some false, ())) w
  | 0, i, b, hb => by
    simp only [reps] at hb
    generalize xs.toList.drop (i * l.length) = x at hb
    generalize ys.toList.drop (i * l.length) = y at hb
    cases x <;> cases y <;> first | (cases hb; rfl) | (cases hb; done)
  | n + 1, i, b, hb => by
    simp only [reps] at hb
    obtain ⟨p, q, h1, h2, rfl⟩ := eqV_app l (reps l n) _ _ hb
    obtain ⟨x, y, hx, hy, he⟩ := h w xs ys (i * l.length) p h1
    rw [List.drop_drop, List.drop_drop, show i * l.length + l.length = (i + 1) * l.length by rw [Nat.add_mul, Nat.one_mul]] at h2
    have ih := array_loop h w xs ys n (i + 1) q h2
    simp only [List.range'_succ, List.forIn_cons, Sem.run_bind, hx, hy, he, Result.andThen_ok]
    cases p
    · simp
    · simpa using ih

theorem flat_part : ∀ (d e : Nat) (t : TypeId) (ks : List Nat), flatD P d t = some ks → d ≤ e → PartEq P e t ks
  | 0, _, _, _, h, _ => by cases h
  | d + 1, 0, _, _, _, hle => absurd hle (Nat.not_succ_le_zero _)
  | d + 1, e + 1, t, ks, h, hle => by
    have ih : ∀ t ks, flatD P d t = some ks → PartEq P e t ks := fun t ks h => flat_part d e t ks h (Nat.le_of_succ_le_succ hle)
    intro w xs ys off b hb
    simp only [flatD] at h
    split at h
    · rename_i k i hu hi
      injection h with h; subst h
      obtain ⟨x, y, hx, hy, hl⟩ := one_cell hb
      exact ⟨x, y, part_leaf hu rfl w xs off x (at_one hx), part_leaf hu rfl w ys off y (at_one hy), leaf_eq w hl (fun _ => ⟨k, hu⟩) (fun h => by cases h) (fun h => by cases h)⟩
    · rename_i i hu hi
      injection h with h; subst h
      obtain ⟨x, y, hx, hy, hl⟩ := one_cell hb
      exact ⟨x, y, part_leaf hu rfl w xs off x (at_one hx), part_leaf hu rfl w ys off y (at_one hy), leaf_eq w hl (fun h => by cases h) (fun _ => hu) (fun h => by cases h)⟩
    · rename_i i hu hi
      injection h with h; subst h
      obtain ⟨x, y, hx, hy, hl⟩ := one_cell hb
      exact ⟨x, y, part_leaf hu rfl w xs off x (at_one hx), part_leaf hu rfl w ys off y (at_one hy), leaf_eq w hl (fun h => by cases h) (fun h => by cases h) (fun _ => hu)⟩
    · rename_i fs i hu hi
      split at h
      · cases h
      · rename_i hst
        split at h
        · rename_i l hl
          split at h
          · rename_i hsz
            injection h with h; subst h
            refine ⟨_, _, part_row hu hi rfl w xs off, part_row hu hi rfl w ys off, ?_⟩
            have hf : P.fieldsOf t = fs := by simp [Program.fieldsOf, hu]
            rw [run_equalIn_struct (P := P) w e t _ _ (by rw [hf]; exact hu) (by simpa using hst), hf]
            refine fields_eq ih w _ _ fs.toList 0 l b hl ?_
            simpa [Array.toList_extract, List.extract, Nat.add_sub_cancel_left, ← hsz] using hb
          · cases h
        · cases h
    · rename_i n el i hu hi
      split at h
      · rename_i l hl
        split at h
        · rename_i hsz
          injection h with h; subst h
          refine ⟨_, _, part_row hu hi rfl w xs off, part_row hu hi rfl w ys off, ?_⟩
          have hlen : ∀ n, (reps l n).length = n * l.length := by
            intro n
            induction n with
            | zero => simp [reps]
            | succ n ih => simp [reps, ih, Nat.add_mul, Nat.add_comm]
          have hsize : (sizeOf el).run P w = .ok l.length w := by
            have := hsz.1
            cases hq : P.info? el with
            | none => simp [hq] at this
            | some ti => simp [hq] at this; simp [sizeOf, typeInfo, hq, this, Sem.run_bind]
          have hb' : eqV (reps l n) ((xs.extract off (off + i.size)).toList.drop (0 * l.length)) ((ys.extract off (off + i.size)).toList.drop (0 * l.length)) = some b := by
            simpa [Array.toList_extract, List.extract, Nat.add_sub_cancel_left, ← hsz.2, hlen] using hb
          have hloop := array_loop (ih el l hl) w _ _ n 0 b hb'
          simp only [Op.equalIn, Sem.run_bind, run_underlying hu, Result.andThen_ok, hsize]
          simp only [Std.Legacy.Range.forIn_eq_forIn_range', Std.Legacy.Range.size, Nat.sub_zero, Nat.add_sub_cancel, Nat.div_one]
          rw [hloop]
          cases b <;> simp
        · cases h
      · cases h
    · cases h

theorem reps_len (l : List Nat) : ∀ n, (reps l n).length = n * l.length
  | 0 => by simp [reps]
  | n + 1 => by simp [reps, reps_len l n, Nat.add_mul, Nat.add_comm]
theorem flat_size {d : Nat} {t : TypeId} {ks : List Nat} {i : TypeInfo} (h : flatD P d t = some ks) (hr : (P.underlying t).map TypeDesc.isRow = some true) (hi : P.info? t = some i) : i.size = ks.length := by
  cases d with
  | zero => cases h
  | succ d =>
    simp only [flatD, hi] at h
    split at h
    · rename_i hu _; rw [hu] at hr; cases hr
    · rename_i hu _; rw [hu] at hr; cases hr
    · rename_i hu _; rw [hu] at hr; cases hr
    · rename_i hu he
      injection he with he; subst he
      split at h
      · cases h
      · split at h
        · split at h
          · rename_i hsz; injection h with h; subst h; exact hsz.symm
          · cases h
        · cases h
    · rename_i hu he
      injection he with he; subst he
      split at h
      · split at h
        · rename_i hsz; injection h with h; subst h; rw [reps_len]; exact hsz.2.symm
        · cases h
      · cases h
    · cases h

/-- **Two values of such a type are equal where their cells are.** -/
theorem flat_eq {d : Nat} {t : TypeId} {ks : List Nat} (h : flatD P d t = some ks) (hd : d ≤ 10000) (hr : (P.underlying t).map TypeDesc.isRow = some true) {xs ys : Array Value} {b : Bool} (hb : eqV ks xs.toList ys.toList = some b) (w : World) :
    (Op.equal t (.agg xs) (.agg ys)).run P w = .ok b w := by
  have hl := eqV_len _ _ _ hb
  obtain ⟨x, y, hx, hy, he⟩ := flat_part d 10000 t ks h hd w xs ys 0 b (by rw [List.drop_zero, List.drop_zero, List.take_of_length_le (Nat.le_of_eq hl.1), List.take_of_length_le (Nat.le_of_eq hl.2)]; exact hb)
  cases hu : P.underlying t with
  | none => simp [hu] at hr
  | some ds =>
    have hr' : ds.isRow = true := by simpa [hu] using hr
    cases hi : P.info? t with
    | none =>
      cases d with
      | zero => cases h
      | succ d => simp [flatD, hi] at h
    | some i =>
      have hsz := flat_size h hr hi
      rw [part_row hu hi hr' w xs 0] at hx
      rw [part_row hu hi hr' w ys 0] at hy
      have hz : ∀ zs : Array Value, zs.toList.length = ks.length → zs.extract 0 (0 + i.size) = zs := fun zs hzs => by
        rw [hsz, ← hzs]; simp
      rw [hz xs hl.1] at hx
      rw [hz ys hl.2] at hy
      injection hx with hx
      injection hy with hy
      subst hx hy
      exact he
end

end Go.Proofs.Ythlkhjfilfdpiaa.Eng
