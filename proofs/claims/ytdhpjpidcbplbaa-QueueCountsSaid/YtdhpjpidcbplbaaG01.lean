/- Parts of the proof, joined: no conditions of their own. -/
import Derived.Handy
import Derived.Laws.StructEq
import Derived.Deep.MidRow
import Derived.Still
import Derived.Deep.Draws
import Derived.Laws.AppendOwn
import Derived.MapKept
import Derived.Laws.CopyRow
set_option linter.unusedVariables false
set_option linter.unusedSimpArgs false
/- ENGINE: types whose values are equal where all their cells are. -/
namespace Go.Proofs.Ytdhpjpidcbplbaa.Eng
open Go Go.RowKit
def flatF (g : TypeId → Option (List Nat)) : Nat → List Field → Option (List Nat)
  | _, [] => some []
  | off, f :: fs => if f.name = "_" ∨ f.offset ≠ off then none else match g f.type with
    | some l => (flatF g (off + l.length) fs).map (l ++ ·)
    | none => none
def reps (l : List Nat) : Nat → List Nat
  | 0 => []
  | n + 1 => l ++ reps l n
def flatD (P : Program) : Nat → TypeId → Option (List Nat)
  | 0, _ => none
  | d + 1, t => match P.underlying t, P.info? t with
    | some (.int _), some _ => some [0]
    | some .bool, some _ => some [1]
    | some .string, some _ => some [2]
    | some (.struct fs), some i => if P.stoodInHeld t then none else match flatF (flatD P d) 0 fs.toList with
      | some l => if l.length = i.size then some l else none
      | none => none
    | some (.array n e), some i => match flatD P d e with
      | some l => if (P.info? e).map (·.size) = some l.length ∧ n * l.length = i.size then some (reps l n) else none
      | none => none
    | _, _ => none
def leafV : Nat → Value → Value → Option Bool
  | 0, .int k a, .int l b => if k = l then some (a == b) else none
  | 1, .bool a, .bool b => some (a == b)
  | 2, .string a, .string b => some (a.toList == b.toList)
  | _, _, _ => none
def eqV : List Nat → List Value → List Value → Option Bool
  | [], [], [] => some true
  | t :: ts, a :: x, b :: y => match leafV t a b, eqV ts x y with
    | some p, some q => some (p && q)
    | _, _ => none
  | _, _, _ => none
theorem eqV_len : ∀ (ks : List Nat) (xs ys : List Value) {b : Bool}, eqV ks xs ys = some b → xs.length = ks.length ∧ ys.length = ks.length
  | [], [], [], _, _ => ⟨rfl, rfl⟩
  | t :: ts, a :: x, b :: y, r, h => by
    simp only [eqV] at h
    split at h
    · rename_i p q hp hq
      have := eqV_len ts x y hq
      simp [this]
    · cases h
  | [], _ :: _, _, _, h => by cases h
  | [], [], _ :: _, _, h => by cases h
  | _ :: _, [], _, _, h => by cases h
  | _ :: _, _ :: _, [], _, h => by cases h
theorem eqV_app : ∀ (ks ls : List Nat) (xs ys : List Value) {b : Bool}, eqV (ks ++ ls) xs ys = some b →
    ∃ p q, eqV ks (xs.take ks.length) (ys.take ks.length) = some p ∧ eqV ls (xs.drop ks.length) (ys.drop ks.length) = some q ∧ b = (p && q)
  | [], ls, xs, ys, b, h => ⟨true, b, by simp [eqV], by simpa using h, by simp⟩
  | k :: ks, ls, x :: xs, y :: ys, b, h => by
    simp only [List.cons_append, eqV] at h
    split at h
    · rename_i p q hp hq
      obtain ⟨p', q', h1, h2, rfl⟩ := eqV_app ks ls xs ys hq
      injection h with h
      refine ⟨p && p', q', ?_, by simpa using h2, by rw [← h, Bool.and_assoc]⟩
      simp [eqV, hp, h1]
    · cases h
  | k :: ks, ls, [], ys, b, h => by cases ys <;> cases h
  | k :: ks, ls, x :: xs, [], b, h => by cases h
section
variable {P : Program}
def PartEq (P : Program) (e : Nat) (t : TypeId) (ks : List Nat) : Prop :=
  ∀ (w : World) (xs ys : Array Value) (off : Nat) (b : Bool), eqV ks ((xs.toList.drop off).take ks.length) ((ys.toList.drop off).take ks.length) = some b →
    ∃ x y, (part t xs off).run P w = .ok x w ∧ (part t ys off).run P w = .ok y w ∧ (Op.equalIn e t x y).run P w = .ok b w
theorem part_row {t : TypeId} {d : TypeDesc} {i : TypeInfo} (hu : P.underlying t = some d) (hi : P.info? t = some i) (hr : d.isRow = true) (w : World) (xs : Array Value) (off : Nat) : (part t xs off).run P w = .ok (.agg (xs.extract off (off + i.size))) w := by
  have hagg : (isAgg t).run P w = .ok true w := by
    unfold isAgg
    rw [Sem.run_bind, run_underlying hu w]
    cases d <;> simp_all [TypeDesc.isRow]
  simp [part, Sem.run_bind, hagg, sizeOf, typeInfo, hi]
theorem part_leaf {t : TypeId} {d : TypeDesc} (hu : P.underlying t = some d) (hr : d.isRow = false) (w : World) (xs : Array Value) (off : Nat) (x : Value) (hx : xs[off]? = some x) : (part t xs off).run P w = .ok x w := by
  have hagg : (isAgg t).run P w = .ok false w := by
    unfold isAgg
    rw [Sem.run_bind, run_underlying hu w]
    cases d <;> simp_all [TypeDesc.isRow]
  simp [part, Sem.run_bind, hagg, hx]
theorem one_cell {k : Nat} {xs ys : List Value} {b : Bool} (h : eqV [k] xs ys = some b) : ∃ x y, xs = [x] ∧ ys = [y] ∧ leafV k x y = some b := by
  match xs, ys, h with
  | [x], [y], h =>
    refine ⟨x, y, rfl, rfl, ?_⟩
    simp only [eqV] at h
    cases hl : leafV k x y with
    | none => simp [hl] at h
    | some p => simpa [hl] using h
  | [], _, h => cases h
  | _ :: _, [], h => cases h
  | [x], y :: z :: r, h =>
    simp only [eqV] at h
    cases hl : leafV k x y <;> simp [hl] at h
  | x :: z :: r, y :: s, h =>
    simp only [eqV] at h
    cases hl : leafV k x y <;> simp [hl] at h
theorem at_one {xs : Array Value} {off : Nat} {x : Value} (h : (xs.toList.drop off).take 1 = [x]) : xs[off]? = some x := by
  have : ((xs.toList.drop off).take 1)[0]? = some x := by rw [h]; rfl
  simpa [List.getElem?_take, List.getElem?_drop] using this
theorem leaf_eq {e k : Nat} {t : TypeId} {x y : Value} {b : Bool} (w : World) (hl : leafV k x y = some b) (h0 : k = 0 → ∃ q, P.underlying t = some (.int q)) (h1 : k = 1 → P.underlying t = some .bool) (h2 : k = 2 → P.underlying t = some .string) :
    (Op.equalIn (e + 1) t x y).run P w = .ok b w := by
  unfold leafV at hl
  split at hl
  · obtain ⟨q, hq⟩ := h0 rfl
    split at hl
    · rename_i hk
      subst hk
      injection hl with hl
      rw [run_equalIn_int w e t _ q _ _ hq, hl]
    · cases hl
  · injection hl with hl
    rw [run_equalIn_bool' w e t _ _ (h1 rfl), hl]
  · injection hl with hl
    rw [run_equalIn_string w e t _ _ (h2 rfl), hl]
  · cases hl
theorem fields_eq {e d : Nat} (ih : ∀ t ks, flatD P d t = some ks → PartEq P e t ks) (w : World) (xs ys : Array Value) : ∀ (fs : List Field) (off : Nat) (ks : List Nat) (b : Bool), flatF (flatD P d) off fs = some ks → eqV ks (xs.toList.drop off) (ys.toList.drop off) = some b → (Op.eqFields e xs ys fs).run P w = .ok b w
  | [], off, ks, b, h, hb => by
    injection h with h
    subst h
    generalize xs.toList.drop off = l at hb
    generalize ys.toList.drop off = m at hb
    cases l <;> cases m <;> first | (cases hb; simp [Op.eqFields]; done) | (cases hb; done)
  | f :: fs, off, ks, b, h, hb => by
    simp only [flatF] at h
    split at h
    · cases h
    · rename_i hno
      have hn : f.name ≠ "_" := fun hh => hno (.inl hh)
      have ho : f.offset = off := Classical.byContradiction fun hh => hno (.inr hh)
      split at h
      · rename_i l hl
        simp only [Option.map_eq_some_iff] at h
        obtain ⟨m, hm, rfl⟩ := h
        obtain ⟨p, q, h1, h2, rfl⟩ := eqV_app l m _ _ hb
        obtain ⟨x, y, hx, hy, he⟩ := ih _ _ hl w xs ys off p h1
        rw [List.drop_drop, List.drop_drop] at h2
        have hr := fields_eq ih w xs ys fs (off + l.length) m q hm h2
        simp only [Op.eqFields, if_pos hn, ho, Sem.run_bind, hx, hy, he, Result.andThen_ok]
        cases p
        · simp
        · simpa using hr
      · cases h
theorem array_loop {e : Nat} {t : TypeId} {l : List Nat} (h : PartEq P e t l) (w : World) (xs ys : Array Value) : ∀ (n i : Nat) (b : Bool), eqV (reps l n) (xs.toList.drop (i * l.length)) (ys.toList.drop (i * l.length)) = some b →
    ((forIn (List.range' i n 1) ((none, ()) : Option Bool × Unit) fun j r => do
        let a ← part t xs (j * l.length)
        let c ← part t ys (j * l.length)
        let q ← Op.equalIn e t a c
        if (!q) = true then pure (ForInStep.done (some false, ())) else pure (ForInStep.yield (none, ())) : Sem (Option Bool × Unit))).run P w = .ok (if b then (none, ()) else (some false, ())) w
  | 0, i, b, hb => by
    simp only [reps] at hb
    generalize xs.toList.drop (i * l.length) = x at hb
    generalize ys.toList.drop (i * l.length) = y at hb
    cases x <;> cases y <;> first | (cases hb; rfl) | (cases hb; done)
  | n + 1, i, b, hb => by
    simp only [reps] at hb
    obtain ⟨p, q, h1, h2, rfl⟩ := eqV_app l (reps l n) _ _ hb
    obtain ⟨x, y, hx, hy, he⟩ := h w xs ys (i * l.length) p h1
    rw [List.drop_drop, List.drop_drop, show i * l.length + l.length = (i + 1) * l.length by rw [Nat.add_mul, Nat.one_mul]] at h2
    have ih := array_loop h w xs ys n (i + 1) q h2
    simp only [List.range'_succ, List.forIn_cons, Sem.run_bind, hx, hy, he, Result.andThen_ok]
    cases p
    · simp
    · simpa using ih
theorem flat_part : ∀ (d e : Nat) (t : TypeId) (ks : List Nat), flatD P d t = some ks → d ≤ e → PartEq P e t ks
  | 0, _, _, _, h, _ => by cases h
  | d + 1, 0, _, _, _, hle => absurd hle (Nat.not_succ_le_zero _)
  | d + 1, e + 1, t, ks, h, hle => by
    have ih : ∀ t ks, flatD P d t = some ks → PartEq P e t ks := fun t ks h => flat_part d e t ks h (Nat.le_of_succ_le_succ hle)
    intro w xs ys off b hb
    simp only [flatD] at h
    split at h
    · rename_i k i hu hi
      injection h with h; subst h
      obtain ⟨x, y, hx, hy, hl⟩ := one_cell hb
      exact ⟨x, y, part_leaf hu rfl w xs off x (at_one hx), part_leaf hu rfl w ys off y (at_one hy), leaf_eq w hl (fun _ => ⟨k, hu⟩) (fun h => by cases h) (fun h => by cases h)⟩
    · rename_i i hu hi
      injection h with h; subst h
      obtain ⟨x, y, hx, hy, hl⟩ := one_cell hb
      exact ⟨x, y, part_leaf hu rfl w xs off x (at_one hx), part_leaf hu rfl w ys off y (at_one hy), leaf_eq w hl (fun h => by cases h) (fun _ => hu) (fun h => by cases h)⟩
    · rename_i i hu hi
      injection h with h; subst h
      obtain ⟨x, y, hx, hy, hl⟩ := one_cell hb
      exact ⟨x, y, part_leaf hu rfl w xs off x (at_one hx), part_leaf hu rfl w ys off y (at_one hy), leaf_eq w hl (fun h => by cases h) (fun h => by cases h) (fun _ => hu)⟩
    · rename_i fs i hu hi
      split at h
      · cases h
      · rename_i hst
        split at h
        · rename_i l hl
          split at h
          · rename_i hsz
            injection h with h; subst h
            refine ⟨_, _, part_row hu hi rfl w xs off, part_row hu hi rfl w ys off, ?_⟩
            have hf : P.fieldsOf t = fs := by simp [Program.fieldsOf, hu]
            rw [run_equalIn_struct (P := P) w e t _ _ (by rw [hf]; exact hu) (by simpa using hst), hf]
            refine fields_eq ih w _ _ fs.toList 0 l b hl ?_
            simpa [Array.toList_extract, List.extract, Nat.add_sub_cancel_left, ← hsz] using hb
          · cases h
        · cases h
    · rename_i n el i hu hi
      split at h
      · rename_i l hl
        split at h
        · rename_i hsz
          injection h with h; subst h
          refine ⟨_, _, part_row hu hi rfl w xs off, part_row hu hi rfl w ys off, ?_⟩
          have hlen : ∀ n, (reps l n).length = n * l.length := by
            intro n
            induction n with
            | zero => simp [reps]
            | succ n ih => simp [reps, ih, Nat.add_mul, Nat.add_comm]
          have hsize : (sizeOf el).run P w = .ok l.length w := by
            have := hsz.1
            cases hq : P.info? el with
            | none => simp [hq] at this
            | some ti => simp [hq] at this; simp [sizeOf, typeInfo, hq, this, Sem.run_bind]
          have hb' : eqV (reps l n) ((xs.extract off (off + i.size)).toList.drop (0 * l.length)) ((ys.extract off (off + i.size)).toList.drop (0 * l.length)) = some b := by
            simpa [Array.toList_extract, List.extract, Nat.add_sub_cancel_left, ← hsz.2, hlen] using hb
          have hloop := array_loop (ih el l hl) w _ _ n 0 b hb'
          simp only [Op.equalIn, Sem.run_bind, run_underlying hu, Result.andThen_ok, hsize]
          simp only [Std.Legacy.Range.forIn_eq_forIn_range', Std.Legacy.Range.size, Nat.sub_zero, Nat.add_sub_cancel, Nat.div_one]
          rw [hloop]
          cases b <;> simp
        · cases h
      · cases h
    · cases h
theorem reps_len (l : List Nat) : ∀ n, (reps l n).length = n * l.length
  | 0 => by simp [reps]
  | n + 1 => by simp [reps, reps_len l n, Nat.add_mul, Nat.add_comm]
theorem flat_size {d : Nat} {t : TypeId} {ks : List Nat} {i : TypeInfo} (h : flatD P d t = some ks) (hr : (P.underlying t).map TypeDesc.isRow = some true) (hi : P.info? t = some i) : i.size = ks.length := by
  cases d with
  | zero => cases h
  | succ d =>
    simp only [flatD, hi] at h
    split at h
    · rename_i hu _; rw [hu] at hr; cases hr
    · rename_i hu _; rw [hu] at hr; cases hr
    · rename_i hu _; rw [hu] at hr; cases hr
    · rename_i hu he
      injection he with he; subst he
      split at h
      · cases h
      · split at h
        · split at h
          · rename_i hsz; injection h with h; subst h; exact hsz.symm
          · cases h
        · cases h
    · rename_i hu he
      injection he with he; subst he
      split at h
      · split at h
        · rename_i hsz; injection h with h; subst h; rw [reps_len]; exact hsz.2.symm
        · cases h
      · cases h
    · cases h
theorem flat_eq {d : Nat} {t : TypeId} {ks : List Nat} (h : flatD P d t = some ks) (hd : d ≤ 10000) (hr : (P.underlying t).map TypeDesc.isRow = some true) {xs ys : Array Value} {b : Bool} (hb : eqV ks xs.toList ys.toList = some b) (w : World) :
    (Op.equal t (.agg xs) (.agg ys)).run P w = .ok b w := by
  have hl := eqV_len _ _ _ hb
  obtain ⟨x, y, hx, hy, he⟩ := flat_part d 10000 t ks h hd w xs ys 0 b (by rw [List.drop_zero, List.drop_zero, List.take_of_length_le (Nat.le_of_eq hl.1), List.take_of_length_le (Nat.le_of_eq hl.2)]; exact hb)
  cases hu : P.underlying t with
  | none => simp [hu] at hr
  | some ds =>
    have hr' : ds.isRow = true := by simpa [hu] using hr
    cases hi : P.info? t with
    | none =>
      cases d with
      | zero => cases h
      | succ d => simp [flatD, hi] at h
    | some i =>
      have hsz := flat_size h hr hi
      rw [part_row hu hi hr' w xs 0] at hx
      rw [part_row hu hi hr' w ys 0] at hy
      have hz : ∀ zs : Array Value, zs.toList.length = ks.length → zs.extract 0 (0 + i.size) = zs := fun zs hzs => by
        rw [hsz, ← hzs]; simp
      rw [hz xs hl.1] at hx
      rw [hz ys hl.2] at hy
      injection hx with hx
      injection hy with hy
      subst hx hy
      exact he
end
section
variable {P : Program}
def ChkEq (P : Program) (em : Bool) (e : Nat) (t : TypeId) (ks : List Nat) : Prop :=
  ∀ (w : World) (xs : Array Value) (off : Nat) (b : Bool), eqV ks ((xs.toList.drop off).take ks.length) ((xs.toList.drop off).take ks.length) = some b →
    ∃ x, (part t xs off).run P w = .ok x w ∧ (Instr.checkKey em e t x).run P w = .ok () w
theorem fields_chk {em : Bool} {e d : Nat} (ih : ∀ t ks, flatD P d t = some ks → ChkEq P em e t ks) (w : World) (xs : Array Value) : ∀ (fs : List Field) (off : Nat) (ks : List Nat) (b : Bool), flatF (flatD P d) off fs = some ks → eqV ks (xs.toList.drop off) (xs.toList.drop off) = some b →
    (forIn fs PUnit.unit (fun f (_ : PUnit) => (do
      if f.name ≠ "_" then Instr.checkKey em e f.type (← part f.type xs f.offset)
      pure (ForInStep.yield PUnit.unit) : Sem (ForInStep PUnit)))).run P w = .ok () w
  | [], off, ks, b, h, hb => by simp
  | f :: fs, off, ks, b, h, hb => by
    simp only [flatF] at h
    split at h
    · cases h
    · rename_i hno
      have hn : f.name ≠ "_" := fun hh => hno (.inl hh)
      have ho : f.offset = off := Classical.byContradiction fun hh => hno (.inr hh)
      split at h
      · rename_i l hl
        simp only [Option.map_eq_some_iff] at h
        obtain ⟨m, hm, rfl⟩ := h
        obtain ⟨p, q, h1, h2, rfl⟩ := eqV_app l m _ _ hb
        obtain ⟨x, hx, he⟩ := ih _ _ hl w xs off p h1
        rw [List.drop_drop] at h2
        have hr := fields_chk ih w xs fs (off + l.length) m q hm h2
        simp only [List.forIn_cons, Sem.run_bind, hn, ne_eq, not_false_eq_true, if_true, ho, hx, he, Result.andThen_ok, Sem.run_pure]
        exact hr
      · cases h
theorem array_chk {em : Bool} {e : Nat} {t : TypeId} {l : List Nat} (h : ChkEq P em e t l) (w : World) (xs : Array Value) (hs : (sizeOf t).run P w = .ok l.length w) : ∀ (n i : Nat) (b : Bool), eqV (reps l n) (xs.toList.drop (i * l.length)) (xs.toList.drop (i * l.length)) = some b →
    (forIn (List.range' i n 1) PUnit.unit (fun j (_ : PUnit) => (do
      Instr.checkKey em e t (← part t xs (j * (← sizeOf t)))
      pure (ForInStep.yield PUnit.unit) : Sem (ForInStep PUnit)))).run P w = .ok () w
  | 0, i, b, hb => by simp
  | n + 1, i, b, hb => by
    simp only [reps] at hb
    obtain ⟨p, q, h1, h2, rfl⟩ := eqV_app l (reps l n) _ _ hb
    obtain ⟨x, hx, he⟩ := h w xs (i * l.length) p h1
    rw [List.drop_drop, show i * l.length + l.length = (i + 1) * l.length by rw [Nat.add_mul, Nat.one_mul]] at h2
    have ih := array_chk h w xs hs n (i + 1) q h2
    simp only [List.range'_succ, List.forIn_cons, Sem.run_bind, hs, hx, he, Result.andThen_ok, Sem.run_pure]
    exact ih
theorem flat_chk (em : Bool) : ∀ (d e : Nat) (t : TypeId) (ks : List Nat), flatD P d t = some ks → d ≤ e → ChkEq P em e t ks
  | 0, _, _, _, h, _ => by cases h
  | d + 1, 0, _, _, _, hle => absurd hle (Nat.not_succ_le_zero _)
  | d + 1, e + 1, t, ks, h, hle => by
    have ih : ∀ t ks, flatD P d t = some ks → ChkEq P em e t ks := fun t ks h => flat_chk em d e t ks h (Nat.le_of_succ_le_succ hle)
    intro w xs off b hb
    have leaf : ∀ {ds : TypeDesc} {k : Nat}, P.underlying t = some ds → ds.isRow = false → (∀ i, ds ≠ .interface i) → eqV [k] ((xs.toList.drop off).take 1) ((xs.toList.drop off).take 1) = some b → ∃ x, (part t xs off).run P w = .ok x w ∧ (Instr.checkKey em (e + 1) t x).run P w = .ok () w := fun {ds k} hu hr hni hb => by
      obtain ⟨x, y, hx, _, hl⟩ := one_cell hb
      refine ⟨x, part_leaf hu hr w xs off x (at_one hx), ?_⟩
      rw [Instr.checkKey]
      simp only [Sem.run_bind, run_underlying hu, Result.andThen_ok]
      cases ds <;> first | (cases hr; done) | exact absurd rfl (hni _) | rfl
    simp only [flatD] at h
    split at h
    · rename_i k i hu hi
      injection h with h; subst h
      exact leaf hu rfl (by simp) hb
    · rename_i i hu hi
      injection h with h; subst h
      exact leaf hu rfl (by simp) hb
    · rename_i i hu hi
      injection h with h; subst h
      exact leaf hu rfl (by simp) hb
    · rename_i fs i hu hi
      split at h
      · cases h
      · split at h
        · rename_i l hl
          split at h
          · rename_i hsz
            injection h with h; subst h
            refine ⟨_, part_row hu hi rfl w xs off, ?_⟩
            have hr := fields_chk ih w (xs.extract off (off + i.size)) fs.toList 0 l b hl (by simpa [Array.toList_extract, List.extract, Nat.add_sub_cancel_left, ← hsz] using hb)
            rw [Instr.checkKey]
            simp only [Sem.run_bind, run_underlying hu, Result.andThen_ok]
            rw [← Array.forIn_toList]
            refine (congrArg (fun r => Result.andThen r fun _ w' => Sem.run P (pure ()) w') (Eq.trans ?_ hr)).trans rfl
            congr 1
          · cases h
        · cases h
    · rename_i n el i hu hi
      split at h
      · rename_i l hl
        split at h
        · rename_i hsz
          injection h with h; subst h
          refine ⟨_, part_row hu hi rfl w xs off, ?_⟩
          have hsize : (sizeOf el).run P w = .ok l.length w := by
            have := hsz.1
            cases hq : P.info? el with
            | none => simp [hq] at this
            | some ti => simp [hq] at this; simp [sizeOf, typeInfo, hq, this, Sem.run_bind]
          have hb' : eqV (reps l n) ((xs.extract off (off + i.size)).toList.drop (0 * l.length)) ((xs.extract off (off + i.size)).toList.drop (0 * l.length)) = some b := by
            simpa [Array.toList_extract, List.extract, Nat.add_sub_cancel_left, ← hsz.2, reps_len] using hb
          have hr := array_chk (ih el l hl) w (xs.extract off (off + i.size)) hsize n 0 b hb'
          rw [Instr.checkKey]
          simp only [Sem.run_bind, run_underlying hu, Result.andThen_ok]
          simp only [Std.Legacy.Range.forIn_eq_forIn_range', Std.Legacy.Range.size, Nat.sub_zero, Nat.add_one_sub_one, Nat.div_one]
          exact (congrArg (fun r => Result.andThen r fun _ w' => Sem.run P (pure ()) w') hr).trans rfl
        · cases h
      · cases h
    · cases h
theorem eqV_take {ks : List Nat} {xs : List Value} {b : Bool} (h : eqV ks xs xs = some b) : eqV ks ((xs.drop 0).take ks.length) ((xs.drop 0).take ks.length) = some b := by
  have hl := (eqV_len _ _ _ h).1
  rw [List.drop_zero, List.take_of_length_le (Nat.le_of_eq hl)]; exact h
theorem flat_check {d : Nat} {t : TypeId} {ks : List Nat} (h : flatD P d t = some ks) (hd : d ≤ 10000) (hr : (P.underlying t).map TypeDesc.isRow = some true) {xs : Array Value} {b : Bool} (hb : eqV ks xs.toList xs.toList = some b) (em : Bool) (w : World) :
    (Instr.checkKey em 10000 t (.agg xs)).run P w = .ok () w := by
  have hl := eqV_len _ _ _ hb
  obtain ⟨x, hx, he⟩ := flat_chk em d 10000 t ks h hd w xs 0 b (eqV_take hb)
  cases hu : P.underlying t with
  | none => simp [hu] at hr
  | some ds =>
    have hr' : ds.isRow = true := by simpa [hu] using hr
    cases hi : P.info? t with
    | none =>
      cases d with
      | zero => cases h
      | succ d => simp [flatD, hi] at h
    | some i =>
      have hsz := flat_size h hr hi
      rw [part_row hu hi hr' w xs 0] at hx
      have hz : xs.extract 0 (0 + i.size) = xs := by rw [hsz, ← hl.1]; simp
      rw [hz] at hx
      injection hx with hx
      subst hx
      exact he
theorem flat_find {d : Nat} {t : TypeId} {ks : List Nat} (h : flatD P d t = some ks) (hd : d ≤ 10000) (hr : (P.underlying t).map TypeDesc.isRow = some true) {S : Value → Prop} (hS : ∀ x y, S x → S y → ∃ xs ys b, x = .agg xs ∧ y = .agg ys ∧ eqV ks xs.toList ys.toList = some b ∧ (b = true ↔ x = y))
    (w : World) {x : Value} (hx : S x) (es : List MapEntry) (hes : ∀ e ∈ es, S e.key) :
    ((Instr.findKey t x es).run P w = .ok none w ∧ ∀ e ∈ es, e.key ≠ x) ∨ ∃ j e, (Instr.findKey t x es).run P w = .ok (some (j, e.val)) w ∧ es[j]? = some e ∧ e.key = x := by
  have go : ∀ (es : List MapEntry) (i : Nat), (∀ e ∈ es, S e.key) → ((Instr.findAsking t x es i).run P w = .ok none w ∧ ∀ e ∈ es, e.key ≠ x) ∨ ∃ j e, (Instr.findAsking t x es i).run P w = .ok (some (i + j, e.val)) w ∧ es[j]? = some e ∧ e.key = x := by
    intro es
    induction es with
    | nil => exact fun i _ => .inl ⟨by simp [Instr.findAsking], by simp⟩
    | cons e es ih =>
      intro i hall
      obtain ⟨xs, ys, b, e1, e2, e3, e4⟩ := hS x e.key hx (hall e (by simp))
      have hq : (Op.equal t x e.key).run P w = .ok b w := by rw [e1, e2]; exact flat_eq h hd hr e3 w
      cases b with
      | true => exact .inr ⟨0, e, by simp [Instr.findAsking, hq], rfl, (e4.1 rfl).symm⟩
      | false =>
        have hne : e.key ≠ x := fun hh => by have := e4.2 hh.symm; cases this
        rcases ih (i + 1) (fun y hy => hall y (by simp [hy])) with ⟨h1, h2⟩ | ⟨j, e', h1, h2, h3⟩
        · refine .inl ⟨by simp [Instr.findAsking, hq, h1], fun y hy => ?_⟩
          rcases List.mem_cons.1 hy with rfl | hy
          · exact hne
          · exact h2 y hy
        · exact .inr ⟨j + 1, e', by simp [Instr.findAsking, hq, h1, Nat.add_assoc, Nat.add_comm 1 j], by simpa using h2, h3⟩
  cases hu : P.underlying t with
  | none => simp [hu] at hr
  | some ds =>
    have hr' : ds.isRow = true := by simpa [hu] using hr
    have hk : (Instr.findKey t x es).run P w = (Instr.findAsking t x es 0).run P w := by
      unfold Instr.findKey
      simp only [Sem.run_bind, run_underlying hu, Result.andThen_ok]
      cases es with
      | nil => simp [Instr.findNow, Instr.findAsking]
      | cons e es =>
        have : Instr.findNow ds x (e :: es) 0 = none := by
          unfold Instr.findNow
          have : Instr.sameNow ds x e.key = none := by cases ds <;> first | rfl | (cases hr'; done)
          rw [this]
        rw [this]
    rw [hk]
    rcases go es 0 hes with h1 | ⟨j, e, h1, h2, h3⟩
    · exact .inl h1
    · exact .inr ⟨j, e, by simpa using h1, h2, h3⟩
theorem same_bits : ∀ (ks : List Nat) (n : Nat) (xs ys : List Value) {b : Bool}, eqV ks xs ys = some b → ys = xs → (xs.zip ys).all (fun (p : Value × Value) => Instr.sameBits n p.1 p.2) = true
  | [], n, [], [], _, _, _ => rfl
  | k :: ks, n, x :: xs, y :: ys, b, h, e => by
    injection e with e1 e2
    subst e1 e2
    simp only [eqV] at h
    split at h
    · rename_i p q hp hq
      have h1 := same_bits ks n ys ys hq rfl
      have h2 : Instr.sameBits n y y = true := by
        unfold leafV at hp
        split at hp
        · simp [Instr.sameBits]
        · simp [Instr.sameBits]
        · have hb : ∀ s : ByteArray, (s == s) = true := fun s => by show (s.data == s.data) = true; simp
          cases n <;> simp only [Instr.sameBits] <;> exact hb _
        · cases hp
      simp [h1, h2]
    · cases h
  | [], _, _ :: _, _, _, h, _ => by cases h
  | [], _, [], _ :: _, _, h, _ => by cases h
  | _ :: _, _, [], _, _, h, _ => by cases h
  | _ :: _, _, _ :: _, [], _, h, _ => by cases h
theorem flat_stays {ks : List Nat} {xs : Array Value} {b : Bool} (hb : eqV ks xs.toList xs.toList = some b) (w : World) : (Instr.keyThatStays (.agg xs) (.agg xs)).run P w = .ok (.agg xs) w := by
  have hs : Instr.sameBits 10000 (.agg xs) (.agg xs) = true := by
    show Instr.sameBits (9999 + 1) (.agg xs) (.agg xs) = true
    simp only [Instr.sameBits, beq_self_eq_true, Bool.true_and]
    exact same_bits ks 9999 _ _ hb rfl
  simp [Instr.keyThatStays, hs]
end
end Go.Proofs.Ytdhpjpidcbplbaa.Eng

/- ENGINE 2, 1: abstract values and the run of a function's code over them, as a proposition. Nothing here names a program. -/
namespace Go.Proofs.Ytdhpjpidcbplbaa.Eng
open Go
inductive Ty where
  | nil
  | int (k : IntKind) (r : Ty)
  | bool (r : Ty)
  | str (r : Ty)
  | sl (a : Ty) (r : Ty)
@[reducible] def El : Ty → Type
  | .nil => Unit
  | .int _ r => Int × El r
  | .bool r => Bool × El r
  | .str r => ByteArray × El r
  | .sl a r => List (El a) × El r
def tsz : Ty → Nat
  | .nil => 0
  | .int _ r => tsz r + 1
  | .bool r => tsz r + 1
  | .str r => tsz r + 1
  | .sl _ r => tsz r + 1
def zeroE : (t : Ty) → El t
  | .nil => ()
  | .int _ r => (0, zeroE r)
  | .bool r => (false, zeroE r)
  | .str r => (ByteArray.empty, zeroE r)
  | .sl _ r => ([], zeroE r)
def flatTy : Ty → Bool
  | .nil => true
  | .int _ r => flatTy r
  | .bool r => flatTy r
  | .str r => flatTy r
  | .sl _ _ => false
inductive VT where
  | fn
  | el (t : Ty)
  | own (a : Ty) (e : TypeId)
@[reducible] def ElV : VT → Type
  | .fn => Nat
  | .el t => El t
  | .own a _ => Value × List (El a)
def cellsE : (t : Ty) → El t → List Value
  | .nil, _ => []
  | .int k r, x => .int k x.1 :: cellsE r x.2
  | .bool r, x => .bool x.1 :: cellsE r x.2
  | .str r, x => .string x.1 :: cellsE r x.2
  | .sl _ r, x => .bool false :: cellsE r x.2
def valE (ag : Bool) (t : Ty) (x : El t) : Value := bif ag then .agg (cellsE t x).toArray else (cellsE t x).headD (.bool false)
def eqE : (t : Ty) → El t → El t → Bool
  | .nil, _, _ => true
  | .int _ r, x, y => (x.1 == y.1) && eqE r x.2 y.2
  | .bool r, x, y => (x.1 == y.1) && eqE r x.2 y.2
  | .str r, x, y => decide (x.1 = y.1) && eqE r x.2 y.2
  | .sl _ _, _, _ => false
def findM {α : Type} (t : Ty) (k : El t) : List (El t × α) → Option α
  | [] => none
  | (a, v) :: r => bif eqE t k a then some v else findM t k r
def putM {α : Type} (t : Ty) (k : El t) (v : α) : List (El t × α) → List (El t × α)
  | [] => [(k, v)]
  | (a, w) :: r => bif eqE t k a then (k, v) :: r else (a, w) :: putM t k v r
def lstM {α : Type} (t : Ty) (k : El t) (l : List (El t × (Value × List α))) : Value × List α :=
  match findM t k l with
  | some v => v
  | none => (.slice none 0 0, [])
def zeroV : (vt : VT) → ElV vt
  | .fn => 0
  | .el t => zeroE t
  | .own _ _ => (.slice none 0 0, [])
def getM (t : Ty) (vt : VT) (l : List (El t × ElV vt)) (i : Nat) : El t × ElV vt := l.getD i (zeroE t, zeroV vt)
def getE (t : Ty) (l : List (El t)) (i : Nat) : El t := l.getD i (zeroE t)
def sameK (k l : IntKind) : Option (PLift (k = l)) := if h : k = l then some ⟨h⟩ else none
def sameTy : (a b : Ty) → Option (PLift (a = b))
  | .nil, .nil => some ⟨rfl⟩
  | .int k r, .int l s => match sameK k l, sameTy r s with
    | some ⟨h⟩, some ⟨h'⟩ => some ⟨by rw [h, h']⟩
    | _, _ => none
  | .bool r, .bool s => match sameTy r s with
    | some ⟨h⟩ => some ⟨by rw [h]⟩
    | none => none
  | .str r, .str s => match sameTy r s with
    | some ⟨h⟩ => some ⟨by rw [h]⟩
    | none => none
  | .sl a r, .sl b s => match sameTy a b, sameTy r s with
    | some ⟨h⟩, some ⟨h'⟩ => some ⟨by rw [h, h']⟩
    | _, _ => none
  | _, _ => none
def castK {α : Sort _} (t t' : Ty) (l : List (El t)) (no : α) (K : List (El t') → α) : α :=
  match sameTy t t' with
  | some ⟨h⟩ => @Eq.rec Ty t (fun t' _ => (List (El t') → α) → α) (fun K => K l) t' h K
  | none => no
def castE {α : Sort _} (t t' : Ty) (x : El t) (no : α) (K : El t' → α) : α :=
  match sameTy t t' with
  | some ⟨h⟩ => @Eq.rec Ty t (fun t' _ => (El t' → α) → α) (fun K => K x) t' h K
  | none => no
inductive AV where
  | u                                   -- nothing
  | v (x : Value)                       -- it is x
  | nil
  | cons (h t : AV)
  | agg (l : AV)
  | tup (l : AV)
  | fn (f : FuncId) (c : AV)            -- a function, with what it has captured
  | gd (b : Bool) (x : AV)              -- x, if b
  | ptr (i o : Nat)                     -- the address of cell o of own object i
  | sc (i o n m : Nat) (t : Ty)         -- a slice over cells of own object i (t: what its elements are, if that is known)
  | rl (q : Bool) (t : Ty) (l : List (El t))  -- a slice that is only read; q: of memory that is new
  | rc (q : Bool) (t : Ty) (l : List (El t))  -- so, without room behind it
  | em                                  -- an empty slice without room
  | rp (k : Nat) (e : Nat → AV) (o : Nat) -- the address of cell o of k cells that are only read
  | ow (i k n : Nat)                    -- the slice that is own row i: n elements of k cells
  | ws (i k lo n : Nat)                 -- n elements of own row i from lo on; k cells each
  | op (i k x o : Nat)                  -- the address of cell o of element x of own row i
  | iw (i x o k n : Nat) (hd : Value)     -- the own slice hd in cell o of element x of own row i: n elements of k cells
  | ip (i x o k y z : Nat) (hd : Value)   -- the address of cell z of element y of it
  | mp (i : Nat)                          -- the map that own object i is
  | mw (i : Nat) (t : Ty) (x : El t) (n : Nat) (hd : Value)       -- the own slice hd that map i has at key x: n elements
  | mq (i : Nat) (t : Ty) (x : El t) (k y z : Nat) (hd : Value)   -- the address of cell z of its element y, of k cells each
inductive AO where
  | cells (l : AV)
  | row (q : Bool) (t : Ty) (e : TypeId) (l : List (El t))   -- a row; q: it is new, and so is all that is in it
  | fz (q : Bool) (t : Ty) (l : List (El t))                 -- a row that is only read from now on
  | mt (q : Bool) (H : Nat → Nat → Value) (t : Ty) (m : List (Option TypeId)) (e : TypeId) (l : List (El t))   -- a row whose elements have own slices: H tells them by element and cell
  | mpo (ka va : Bool) (kt : Ty) (vt : VT) (out : Option (El kt)) (it : Option (Nat × Option (El kt × ElV vt) × List (El kt × ElV vt))) (l : List (El kt × ElV vt))   -- a map: its entries; ka, va: keys, values are structs; out: the key whose own slice is out; it: who ranges over it, at which entry, what is left
  | itp (j : Nat)                         -- what ranges over the map that own object j is
  | dead
  | void                                  -- not yet there
abbrev Fr := List (Nat × AV)
abbrev Post := Fr → List AO → Nat → Prop
structure TI where
  kd : Nat := 0              -- 1: a struct, 2: an array, 3: a slice, 4: a map, 5: a string, 6: a pointer
  sz : Nat := 1
  ag : Bool := false
  fl : List (Nat × TypeId) := []
  pl : List (Nat × Nat) := []   -- a struct's fields: offset and cells
  ar : Nat := 0
  el : TypeId := 0
  ze : Option Value := none
  eq : Option (List Nat) := none   -- equal where the cells are: the cells' kinds
  ik : Option IntKind := none      -- a number's kind
  by_ : Nat := 0                   -- bytes
  ro : Option Ty := none           -- its cells' kinds
  fz : Bool := false               -- a map to functions
  ky : TypeId := 0                 -- kd = 4: a map from ky to el
  mv : Option (Bool × Bool × Ty × VT) := none   -- its keys, its values
  own : Option (List (Option TypeId)) := none   -- rows of it have own slices: in which cells, of what elements
structure CR where
  pre : Prop
  res : AV
  lent : List AO := []
  new : List AO := []
abbrev Con := AV → List AO → Option CR
structure CRD where
  pre : Prop
  d0 : List Nat
  ok : List Nat → Prop
  out : List Nat → CR
abbrev ConD := AV → List AO → Option CRD
structure Env where
  ty : List (TypeId × TI)
  N : Nat
  call : FuncId → Con
  free : FuncId → Bool      -- is asked with plain values alone
  m : Nat := 0              -- so many objects are lent
  ms : List FuncId := []    -- whose calls make own objects in a region without an order
  fz : Bool := false        -- ahead of such a region the own rows that stand in own cells are only read from now on
  ds : List FuncId := []    -- whose answers are not sure
  calld : FuncId → ConD := fun _ _ _ => none
def tyOf : List (TypeId × TI) → TypeId → Option TI
  | [], _ => none
  | (t, i) :: r, x => bif Nat.beq t x then some i else tyOf r x
def look : Fr → Nat → AV
  | [], _ => .u
  | (i, v) :: r, j => bif Nat.beq i j then v else look r j
def strip : AV → AV
  | .gd _ x => x
  | x => x
def raw (fr : Fr) : Operand → AV
  | .tmp t => look fr t
  | .const v => .v v
  | .func f => .fn f .nil
  | .global _ => .u
def opd (fr : Fr) (x : Operand) : AV := strip (raw fr x)
def forceV (x : Value) (K : Value → Prop) : Prop :=
  match x with
  | .bool b => K (.bool b)
  | .int k n => K (.int k n)
  | .pointer a => K (.pointer a)
  | .string s => K (.string s)
  | .slice a n m => K (.slice a n m)
  | .map r => K (.map r)
  | .nilFunc => K .nilFunc
  | .nilIface => K .nilIface
  | _ => False
def force : AV → (AV → Prop) → Prop
  | .u, K => K .u
  | .v x, K => forceV x fun x => K (.v x)
  | .nil, K => K .nil
  | .cons h t, K => force h fun h => force t fun t => K (.cons h t)
  | .agg l, K => force l fun l => K (.agg l)
  | .tup l, K => force l fun l => K (.tup l)
  | .fn f c, K => force c fun c => K (.fn f c)
  | .gd b x, K => force x fun x => K (.gd b x)
  | .ptr i o, K => K (.ptr i o)
  | .sc i o n m t, K => K (.sc i o n m t)
  | .rl q t l, K => K (.rl q t l)
  | .rc q t l, K => K (.rc q t l)
  | .em, K => K .em
  | .rp k e o, K => K (.rp k e o)
  | .ow i k n, K => K (.ow i k n)
  | .ws i k lo n, K => K (.ws i k lo n)
  | .op i k x o, K => K (.op i k x o)
  | .mp i, K => K (.mp i)
  | .mw i t x n hd, K => K (.mw i t x n hd)
  | .mq i t x k y z hd, K => K (.mq i t x k y z hd)
  | .iw i x o k n hd, K => K (.iw i x o k n hd)
  | .ip i x o k y z hd, K => K (.ip i x o k y z hd)
def nth : AV → Nat → Option AV
  | .cons h _, 0 => some h
  | .cons _ t, n + 1 => nth t n
  | _, _ => none
def tk : AV → Nat → Option AV
  | _, 0 => some .nil
  | .cons h t, n + 1 => (tk t n).map (.cons h)
  | _, _ + 1 => none
def part : AV → Nat → Nat → Option AV
  | l, 0, n => tk l n
  | .cons _ t, o + 1, n => part t o n
  | _, _ + 1, _ => none
def over : AV → AV → Option AV
  | l, .nil => some l
  | .cons _ t, .cons h r => (over t r).map (.cons h)
  | _, _ => none
def setc : AV → Nat → AV → Option AV
  | l, 0, x => over l x
  | .cons h t, o + 1, x => (setc t o x).map (.cons h)
  | _, _ + 1, _ => none
def ofValues : List Value → AV
  | [] => .nil
  | x :: r => .cons (.v x) (ofValues r)
def one : AV → Bool
  | .v (.agg _) => false
  | .v (.tuple _) => false
  | .v _ => true
  | .fn _ _ => true
  | .ptr _ _ => true
  | .rl _ _ _ => true
  | .rc _ _ _ => true
  | .em => true
  | .ow _ _ _ => true
  | .ws _ _ _ _ => true
  | .sc _ _ _ _ _ => true
  | .iw _ _ _ _ _ _ => true
  | .mp _ => true
  | .mw _ _ _ _ _ => true
  | _ => false
def ones : AV → Bool
  | .nil => true
  | .cons h t => one h && ones t
  | _ => false
def lenIs : AV → Nat → Bool
  | .nil, 0 => true
  | .cons _ t, n + 1 => lenIs t n
  | _, _ => false
def cellsOf : AV → Option AV
  | .agg l => bif ones l then some l else none
  | .v x => bif one (.v x) then some (.cons (.v x) .nil) else none
  | .fn f c => some (.cons (.fn f c) .nil)
  | .ptr i o => some (.cons (.ptr i o) .nil)
  | .rl q t l => some (.cons (.rl q t l) .nil)
  | .rc q t l => some (.cons (.rc q t l) .nil)
  | .em => some (.cons .em .nil)
  | .ow i k n => some (.cons (.ow i k n) .nil)
  | .ws i k lo n => some (.cons (.ws i k lo n) .nil)
  | .sc i o n m t => some (.cons (.sc i o n m t) .nil)
  | .iw i x o k n hd => some (.cons (.iw i x o k n hd) .nil)
  | .mp i => some (.cons (.mp i) .nil)
  | .mw i t x n hd => some (.cons (.mw i t x n hd) .nil)
  | _ => none
def ofFn (e : Nat → AV) : Nat → Nat → AV
  | _, 0 => .nil
  | o, n + 1 => .cons (e o) (ofFn e (o + 1) n)
def setAO : List AO → Nat → AO → List AO
  | [], _, _ => []
  | _ :: r, 0, x => x :: r
  | o :: r, n + 1, x => o :: setAO r n x
def snoc : List AO → AO → List AO
  | [], x => [x]
  | o :: r, x => o :: snoc r x
def getAO : List AO → Nat → AO
  | [], _ => .dead
  | o :: _, 0 => o
  | _ :: r, n + 1 => getAO r n
inductive R where
  | no
  | ok (v : AV)
  | ob (p : Prop) (v : AV)
  | new (v : AV) (o : AO)                 -- one own object more
  | set (v : AV) (i : Nat) (o : AO)       -- an own object turned
  | upd (v : AV) (i : Nat) (o : AO)       -- so, with a value
  | call (r : CR)
  | any (p : Prop) (hp : Value → List AO)              -- nothing comes of it; the objects behind it, by a value that is not known
  | drw (n : Nat) (over : List AO) (v : Nat → AV) (hp : Nat → List AO)   -- one of n; where there is none: false, and the objects behind it
  | ans (p : Prop) (d0 : List Nat) (ok : List Nat → Prop) (v : List Nat → AV) (hp : List Nat → List AO)   -- a callee is entered whose answer is not sure
  | act (m : Nat) (p : Prop) (v : AV) (hp : List AO)   -- all own objects as they are behind it (m: 0 nothing comes of it, 1 a value, 2 a callee is entered)
def encC (q : Bool) : (t : Ty) → El t → AV
  | .nil, _ => .nil
  | .int k r, x => .cons (.v (.int k x.1)) (encC q r x.2)
  | .bool r, x => .cons (.v (.bool x.1)) (encC q r x.2)
  | .str r, x => .cons (.v (.string x.1)) (encC q r x.2)
  | .sl a r, x => .cons (.rl q a x.1) (encC q r x.2)
def decK {α : Type} : (t : Ty) → AV → α → (Bool → El t → α) → α
  | .nil, .nil, _, K => K true ()
  | .int k r, .cons (.v (.int l n)) m, no, K => if l = k then decK r m no fun q x => K q (n, x) else no
  | .bool r, .cons (.v (.bool b)) m, no, K => decK r m no fun q x => K q (b, x)
  | .str r, .cons (.v (.string b)) m, no, K => decK r m no fun q x => K q (b, x)
  | .sl a r, .cons (.rl q t l) m, no, K => castK t a l no fun l => decK r m no fun q' x => K (q && q') (l, x)
  | .sl a r, .cons (.rc q t l) m, no, K => castK t a l no fun l => decK r m no fun q' x => K (q && q') (l, x)
  | .sl a r, .cons .em m, no, K => decK r m no fun q' x => K q' ([], x)
  | .sl a r, .cons (.v (.slice none n _)) m, no, K => bif Nat.beq n 0 then decK r m no fun q' x => K q' ([], x) else no
  | _, _, no, _ => no
def decN {α : Type} (t : Ty) : Nat → AV → α → (Bool → List (El t) → α) → α
  | 0, _, _, K => K true []
  | n + 1, l, no, K => match part l 0 (tsz t), part l (tsz t) (n * tsz t) with
    | some a, some b => decK t a no fun q x => decN t n b no fun q' r => K (q && q') (x :: r)
    | _, _ => no
def nthD (l : AV) (i : Nat) : AV := match nth l i with | some x => x | none => .u
def headM : List (Option TypeId) → Option TypeId
  | e :: _ => e
  | [] => none
def ownM : List (Option TypeId) → Nat → Option TypeId
  | [], _ => none
  | e :: _, 0 => e
  | _ :: r, n + 1 => ownM r n
def tailM : List (Option TypeId) → List (Option TypeId)
  | _ :: r => r
  | [] => []
def encM (i x : Nat) (h : Nat → Value) (q : Bool) : (t : Ty) → List (Option TypeId) → Nat → El t → AV
  | .nil, _, _, _ => .nil
  | .int k r, m, o, y => .cons (.v (.int k y.1)) (encM i x h q r (tailM m) (o + 1) y.2)
  | .bool r, m, o, y => .cons (.v (.bool y.1)) (encM i x h q r (tailM m) (o + 1) y.2)
  | .str r, m, o, y => .cons (.v (.string y.1)) (encM i x h q r (tailM m) (o + 1) y.2)
  | .sl a r, m, o, y => .cons (match headM m with | some _ => .iw i x o (tsz a) y.1.length (h o) | none => .rl q a y.1) (encM i x h q r (tailM m) (o + 1) y.2)
def innerK {α : Type} (no : α) : (t : Ty) → Nat → El t → ((a : Ty) → List (El a) → α) → α
  | .sl a _, 0, y, K => K a y.1
  | .int _ r, o + 1, y, K => innerK no r o y.2 K
  | .bool r, o + 1, y, K => innerK no r o y.2 K
  | .str r, o + 1, y, K => innerK no r o y.2 K
  | .sl _ r, o + 1, y, K => innerK no r o y.2 K
  | _, _, _, _ => no
def updS {α : Type} (no : α) : (t : Ty) → Nat → El t → (a' : Ty) → List (El a') → (El t → α) → α
  | .sl a _, 0, y, a', l, K => castK a' a l no fun l => K (l, y.2)
  | .int _ r, o + 1, y, a', l, K => updS no r o y.2 a' l fun z => K (y.1, z)
  | .bool r, o + 1, y, a', l, K => updS no r o y.2 a' l fun z => K (y.1, z)
  | .str r, o + 1, y, a', l, K => updS no r o y.2 a' l fun z => K (y.1, z)
  | .sl _ r, o + 1, y, a', l, K => updS no r o y.2 a' l fun z => K (y.1, z)
  | _, _, _, _, _, _ => no
def updH (H : Nat → Nat → Value) (x o : Nat) (hd : Value) : Nat → Nat → Value := fun x' o' => if x' = x ∧ o' = o then hd else H x' o'
theorem updH_at (H : Nat → Nat → Value) (x o : Nat) (hd : Value) : updH H x o hd x o = hd := by simp [updH]
theorem updH_ne (H : Nat → Nat → Value) {x o x' o' : Nat} (hd : Value) (h : ¬ (x' = x ∧ o' = o)) : updH H x o hd x' o' = H x' o' := by simp [updH, h]
def nilH : Nat → Nat → Value := fun _ _ => .slice none 0 0
def ownOkM : Ty → List (Option TypeId) → Bool
  | .nil, _ => true
  | .int _ r, m => ownOkM r (tailM m)
  | .bool r, m => ownOkM r (tailM m)
  | .str r, m => ownOkM r (tailM m)
  | .sl a r, m => (match headM m with | some _ => Nat.blt 0 (tsz a) | none => true) && ownOkM r (tailM m)
def nilM : List (Option TypeId) → AV → Bool
  | m, .cons (.v (.slice none a b)) r => (match headM m with | some _ => Nat.beq a 0 && Nat.beq b 0 | none => true) && nilM (tailM m) r
  | m, .cons _ r => (match headM m with | some _ => false | none => true) && nilM (tailM m) r
  | _, _ => true
def hasN : List Nat → Nat → Bool
  | [], _ => false
  | x :: r, i => Nat.beq x i || hasN r i
def lenN : List Nat → Nat
  | [] => 0
  | _ :: r => lenN r + 1
def unow1 (hp : List AO) : AV → AV
  | .ow i k n => match getAO hp i with
    | .row q t _ l => .rl q t l
    | .fz q t l => .rl q t l
    | _ => .ow i k n
  | x => x
def unow (hp : List AO) : AV → AV
  | .cons h m => .cons (unow1 hp h) (unow hp m)
  | x => x
def owsOf : AV → List Nat
  | .cons (.ow i _ _) m => i :: owsOf m
  | .cons _ m => owsOf m
  | _ => []
def frz1 : AO → AO
  | .row q t _ l => .fz q t l
  | .mt q _ t _ _ l => .fz q t l
  | o => o
def frz : List Nat → List AO → List AO
  | [], hp => hp
  | i :: r, hp => frz r (setAO hp i (frz1 (getAO hp i)))
def same (k l : IntKind) (x : Value) : R := if k = l then .ok (.v x) else .no
def binV (op : BinOp) (x y : Value) : R :=
  match op, x, y with
  | .add, .int k a, .int l b => same k l (.int k (k.wrap (a + b)))
  | .sub, .int k a, .int l b => same k l (.int k (k.wrap (a - b)))
  | .mul, .int k a, .int l b => same k l (.int k (k.wrap (a * b)))
  | .quo, .int k a, .int l b => if k = l then .ob (b ≠ 0) (.v (.int k (k.wrap (a.tdiv b)))) else .no
  | .rem, .int k a, .int l b => if k = l then .ob (b ≠ 0) (.v (.int k (a.tmod b))) else .no
  | .shl, .int k a, .int _ b => .ob (0 ≤ b) (.v (.int k (k.wrap (a * 2 ^ (min b.toNat k.bits)))))
  | .shr, .int k a, .int _ b => .ob (0 ≤ b) (.v (.int k (a.fdiv (2 ^ (min b.toNat k.bits)))))
  | .and, .int k a, .int l b => same k l (.int k (k.wrap (BitVec.ofInt k.bits a &&& BitVec.ofInt k.bits b).toNat))
  | .or, .int k a, .int l b => same k l (.int k (k.wrap (BitVec.ofInt k.bits a ||| BitVec.ofInt k.bits b).toNat))
  | .xor, .int k a, .int l b => same k l (.int k (k.wrap (BitVec.ofInt k.bits a ^^^ BitVec.ofInt k.bits b).toNat))
  | .lss, .int k a, .int l b => same k l (.bool (decide (a < b)))
  | .leq, .int k a, .int l b => same k l (.bool (decide (a ≤ b)))
  | .gtr, .int k a, .int l b => same k l (.bool (decide (a > b)))
  | .geq, .int k a, .int l b => same k l (.bool (decide (a ≥ b)))
  | .eql, .int k a, .int l b => same k l (.bool (a == b))
  | .neq, .int k a, .int l b => same k l (.bool (a != b))
  | _, _, _ => .no
def unV (op : UnOp) (x : Value) : R :=
  match op, x with
  | .not, .bool b => .ok (.v (.bool (!b)))
  | .neg, .int k n => .ok (.v (.int k (k.wrap (0 - n))))
  | _, _ => .no
def lift (x : Option AV) (f : AV → R) : R := match x with | some v => f v | none => .no
def fillA (pl : Nat → Option (Nat × Nat)) : AV → List (Nat × AV) → Option AV
  | l, [] => some l
  | l, (i, x) :: r =>
    match pl i, cellsOf x with
    | some (off, sz), some c => bif lenIs c sz then (match setc l off c with | some l' => fillA pl l' r | none => none) else none
    | _, _ => none
def partR (i : TI) (l : AV) (off : Nat) : R :=
  bif i.ag then lift (part l off i.sz) fun c => .ok (.agg c) else lift ((part l off 1).bind (nth · 0)) .ok
def loadR (i : TI) (hp : List AO) : AV → R
  | .ptr j o => match getAO hp j with
    | .cells l => partR i l o
    | _ => .no
  | .rp k e o => bif i.ag then (bif Nat.ble (o + i.sz) k then .ok (.agg (ofFn e o i.sz)) else .no) else (bif Nat.blt o k then .ok (e o) else .no)
  | .op j k x o => match getAO hp j with
    | .row q t _ l => bif Nat.beq (tsz t) k then partR i (encC q t (getE t l x)) o else .no
    | .fz q t l => bif Nat.beq (tsz t) k then partR i (encC q t (getE t l x)) o else .no
    | .mt q H t m _ l => bif Nat.beq (tsz t) k then partR i (encM j x (H x) q t m 0 (getE t l x)) o else .no
    | _ => .no
  | .ip j x o k y z hd => match getAO hp j with
    | .mt q H t m _ l => innerK .no t o (getE t l x) fun a L => bif Nat.beq (tsz a) k && (ownM m o).isSome then (match partR i (encC q a (getE a L y)) z with | .ok v => .ob (H x o = hd) v | _ => .no) else .no
    | _ => .no
  | .mq j t x k y z hd => match getAO hp j with
    | .mpo _ _ kt (.own a _) none _ l => castE t kt x .no fun x => bif Nat.beq (tsz a) k then (match partR i (encC false a (getE a (lstM kt x l).2 y)) z with | .ok v => .ob ((lstM kt x l).1 = hd) v | _ => .no) else .no
    | _ => .no
  | _ => .no
def putR (hp : List AO) (j : Nat) (ows : List Nat) (o : AO) : R :=
  match ows with
  | [] => .set .u j o
  | _ => .act 0 True .u (setAO (frz ows hp) j o)
def storeR (i : TI) (hp : List AO) (x y : AV) : R :=
  match x, cellsOf y with
  | .ptr j o, some c => bif lenIs c i.sz then (match getAO hp j with
    | .cells l => lift (setc l o c) fun l' => .set .u j (.cells l')
    | _ => .no) else .no
  | .op j k x o, some c => bif lenIs c i.sz && !(hasN (owsOf c) j) then (match getAO hp j with
    | .row q t e l => bif Nat.beq (tsz t) k then (match setc (encC q t (getE t l x)) o (unow hp c) with
      | some c' => decK t c' .no fun q' x' => putR hp j (owsOf c) (.row (q && q') t e (l.set x x'))
      | none => .no) else .no
    | .mt q H t m e l => (match c with
      | .cons (.ow j2 _ _) .nil => (match ownM m o, getAO hp j2 with
        | some e', .row q' a e2 L => bif Nat.beq (tsz t) k && Nat.beq e' e2 && Nat.blt 0 (tsz a) then updS .no t o (getE t l x) a L fun y' => .any True fun hd => setAO (setAO hp j2 .dead) j (.mt (q && q') (updH H x o hd) t m e (l.set x y')) else .no
        | _, _ => .no)
      | _ => .no)
    | _ => .no) else .no
  | .ip j x o k y z hd, some c => bif lenIs c i.sz then (match owsOf c, getAO hp j with
    | [], .mt q H t m e l => innerK .no t o (getE t l x) fun a L => bif Nat.beq (tsz a) k && (ownM m o).isSome then (match setc (encC q a (getE a L y)) z c with
      | some c' => decK a c' .no fun q' y' => updS .no t o (getE t l x) a (L.set y y') fun x' => .act 0 (H x o = hd) .u (setAO hp j (.mt (q && q') H t m e (l.set x x')))
      | none => .no) else .no
    | _, _ => .no) else .no
  | _, _ => .no
def addR (off : Nat) : AV → R
  | .ptr j o => .ok (.ptr j (o + off))
  | .rp k e o => .ok (.rp k e (o + off))
  | .op j k x o => .ok (.op j k x (o + off))
  | .ip j x o k y z hd => .ok (.ip j x o k y (z + off) hd)
  | .mq j t x k y z hd => .ok (.mq j t x k y (z + off) hd)
  | _ => .no
def indexAddrR (kd n k : Nat) (z : Int) : AV → R
  | .ptr j o => bif Nat.beq kd 2 then .ob (0 ≤ z ∧ z < n) (.ptr j (o + z.toNat * k)) else .no
  | .sc j o m _ t => bif Nat.beq kd 3 then .ob (0 ≤ z ∧ z < m) (.ptr j (o + z.toNat * k)) else .no
  | .rl q t l => bif Nat.beq kd 3 && Nat.beq (tsz t) k then .ob (0 ≤ z ∧ z < l.length) (.rp k (fun y => nthD (encC q t (getE t l z.toNat)) y) 0) else .no
  | .rc q t l => bif Nat.beq kd 3 && Nat.beq (tsz t) k then .ob (0 ≤ z ∧ z < l.length) (.rp k (fun y => nthD (encC q t (getE t l z.toNat)) y) 0) else .no
  | .ow j k' m => bif Nat.beq kd 3 && Nat.beq k' k then .ob (0 ≤ z ∧ z < m) (.op j k z.toNat 0) else .no
  | .ws j k' lo m => bif Nat.beq kd 3 && Nat.beq k' k then .ob (0 ≤ z ∧ z < m) (.op j k (lo + z.toNat) 0) else .no
  | .iw j x o k' m hd => bif Nat.beq kd 3 && Nat.beq k' k then .ob (0 ≤ z ∧ z < m) (.ip j x o k z.toNat 0 hd) else .no
  | .mw j t x m hd => bif Nat.beq kd 3 then .ob (0 ≤ z ∧ z < m) (.mq j t x k z.toNat 0 hd) else .no
  | _ => .no
def leafQ : Nat → AV → AV → Option Bool
  | 0, .v (.int k a), .v (.int l b) => if k = l then some (a == b) else none
  | 1, .v (.bool a), .v (.bool b) => some (a == b)
  | 2, .v (.string a), .v (.string b) => some (a.toList == b.toList)
  | _, _, _ => none
def eqQ : List Nat → AV → AV → Option Bool
  | [], .nil, .nil => some true
  | t :: ts, .cons a x, .cons b y => match leafQ t a b, eqQ ts x y with
    | some p, some q => some (p && q)
    | _, _ => none
  | _, _, _ => none
def eqR (op : BinOp) (b : Option Bool) : R :=
  match op, b with
  | .eql, some b => .ok (.v (.bool b))
  | .neq, some b => .ok (.v (.bool (!b)))
  | _, _ => .no
def nilQ : Nat → AV → Option Bool
  | 6, .v (.pointer none) => some true
  | 6, .ptr _ _ => some false
  | 6, .rp _ _ _ => some false
  | 6, .op _ _ _ _ => some false
  | 4, .v (.map none) => some true
  | 4, .mp _ => some false
  | 3, .v (.slice none _ _) => some true
  | _, _ => none
def nilR (E : Env) (op : BinOp) (t : TypeId) (x y : AV) : R :=
  match tyOf E.ty t with
  | some i => (match nilQ i.kd x, nilQ i.kd y with
    | some a, some b => bif a || b then eqR op (some (a && b)) else .no
    | _, _ => .no)
  | none => .no
def binR (E : Env) (op : BinOp) (t : TypeId) : AV → AV → R
  | .v (.pointer none), .v (.pointer none) => nilR E op t (.v (.pointer none)) (.v (.pointer none))
  | .v (.map none), .v (.map none) => nilR E op t (.v (.map none)) (.v (.map none))
  | .v (.slice none a b), .v (.slice none c d) => nilR E op t (.v (.slice none a b)) (.v (.slice none c d))
  | .v (.string a), .v (.string b) => match tyOf E.ty t with
    | some i => (match i.eq, i.ag with | some [2], false => eqR op (some (a.toList == b.toList)) | _, _ => .no)
    | none => .no
  | .v (.bool a), .v (.bool b) => match tyOf E.ty t with
    | some i => (match i.eq, i.ag with | some [1], false => eqR op (some (a == b)) | _, _ => .no)
    | none => .no
  | .v a, .v b => binV op a b
  | .agg l, .agg m => match tyOf E.ty t with
    | some i => (match i.eq with | some ks => bif i.ag then eqR op (eqQ ks l m) else .no | none => .no)
    | none => .no
  | x, y => nilR E op t x y
def bndV : AV → Option Int
  | .v (.int _ z) => some z
  | _ => none
def bnd (d : Int) : Option AV → Option Int
  | none => some d
  | some v => bndV v
def cutL {α : Type} (l : List α) (lo hi : Option AV) (a b : Nat) : List α :=
  match lo, hi with
  | none, none => l
  | none, some _ => l.take b
  | some _, none => l.drop a
  | some _, some _ => (l.take b).drop a
def cutR {α : Type} (l : List α) (lo hi : Option AV) (a b : Nat) (K : List α → R) : R :=
  match lo, hi with
  | none, none => K l
  | none, some _ => K (l.take b)
  | some _, none => K (l.drop a)
  | some _, some _ => K ((l.take b).drop a)
theorem cutR_eq {α : Type} (l : List α) (lo hi : Option AV) (a b : Nat) (K : List α → R) : cutR l lo hi a b K = K (cutL l lo hi a b) := by cases lo <;> cases hi <;> rfl
def sliceR (i : TI) (k : Nat) (te : Option Ty) (cl z0 : Bool) (lo hi mx : Option AV) : AV → R
  | .ptr j o => bif Nat.beq i.kd 2 && (mx.isNone || hi.isSome) then match bnd 0 lo, bnd i.ar hi, bnd i.ar mx with
    | some l, some h, some m => .ob (0 ≤ l ∧ l ≤ h ∧ h ≤ m ∧ m ≤ i.ar) (.sc j (bif Nat.beq m.toNat l.toNat then o else o + l.toNat * k) (h.toNat - l.toNat) (m.toNat - l.toNat) (te.getD .nil))
    | _, _, _ => .no else .no
  | .sc j o n c t => bif Nat.beq i.kd 3 && (mx.isNone || hi.isSome) then match bnd 0 lo, bnd n hi, bnd c mx with
    | some l, some h, some m => .ob (0 ≤ l ∧ l ≤ h ∧ h ≤ m ∧ m ≤ c) (.sc j (bif Nat.beq m.toNat l.toNat then o else o + l.toNat * k) (h.toNat - l.toNat) (m.toNat - l.toNat) t)
    | _, _, _ => .no else .no
  | .rl q t x => bif Nat.beq i.kd 3 && Nat.beq (tsz t) k then (match bnd 0 lo, bnd x.length hi with
    | some l, some h => bif mx.isNone then cutR x lo hi l.toNat h.toNat fun y => .ob (0 ≤ l ∧ l ≤ h ∧ h ≤ x.length) (.rl q t y)
      else bif cl then (bif z0 then .ob (l = 0 ∧ h = 0) .em else cutR x lo hi l.toNat h.toNat fun y => .ob (0 ≤ l ∧ l ≤ h ∧ h ≤ x.length) (.rc q t y)) else (match hi, bnd 0 mx with
        | some _, some m => cutR x lo hi l.toNat h.toNat fun y => .ob ((0 ≤ l ∧ l ≤ h ∧ h ≤ x.length) ∧ m = h) (.rc q t y)
        | _, _ => .no)
    | _, _ => .no) else .no
  | .rc q t x => bif Nat.beq i.kd 3 && Nat.beq (tsz t) k then (match bnd 0 lo, bnd x.length hi with
    | some l, some h => bif mx.isNone then cutR x lo hi l.toNat h.toNat fun y => .ob (0 ≤ l ∧ l ≤ h ∧ h ≤ x.length) (.rl q t y)
      else bif cl then (bif z0 then .ob (l = 0 ∧ h = 0) .em else cutR x lo hi l.toNat h.toNat fun y => .ob (0 ≤ l ∧ l ≤ h ∧ h ≤ x.length) (.rc q t y)) else (match hi, bnd 0 mx with
        | some _, some m => cutR x lo hi l.toNat h.toNat fun y => .ob ((0 ≤ l ∧ l ≤ h ∧ h ≤ x.length) ∧ m = h) (.rc q t y)
        | _, _ => .no)
    | _, _ => .no) else .no
  | .ow j k' n => bif Nat.beq i.kd 3 && Nat.beq k' k && mx.isNone then (match bnd 0 lo, bnd n hi with
    | some l, some h => .ob (0 ≤ l ∧ l ≤ h ∧ h ≤ n) (.ws j k l.toNat (h.toNat - l.toNat))
    | _, _ => .no) else .no
  | .ws j k' lo' n => bif Nat.beq i.kd 3 && Nat.beq k' k && mx.isNone then (match bnd 0 lo, bnd n hi with
    | some l, some h => .ob (0 ≤ l ∧ l ≤ h ∧ h ≤ n) (.ws j k (lo' + l.toNat) (h.toNat - l.toNat))
    | _, _ => .no) else .no
  | .v (.slice none n m) => bif Nat.beq i.kd 3 && mx.isNone && Nat.beq n 0 && Nat.beq m 0 then (match bnd 0 lo, bnd 0 hi with
    | some l, some h => .ob (l = 0 ∧ h = 0) (.v (.slice none 0 0))
    | _, _ => .no) else .no
  | .v (.string s) => bif Nat.beq i.kd 5 && mx.isNone then match bnd 0 lo, bnd s.size hi with
    | some l, some h => .ob (0 ≤ l ∧ l ≤ h ∧ h ≤ s.size) (.v (.string (s.extract l.toNat h.toNat)))
    | _, _ => .no else .no
  | _ => .no
def setR (j : Nat) (l : AV) (o : Nat) (c : AV) (v : AV) : R :=
  bif ones c then (match setc l o c with | some l' => .upd v j (.cells l') | none => .no) else .no
def copyR (hp : List AO) (k : Nat) : AV → AV → R
  | .sc j o n _ _, .sc i o' n' _ _ => match getAO hp i, getAO hp j with
    | .cells li, .cells lj => (match part li o' (Nat.min n' n * k) with
      | some c => setR j lj o c (.v (.int .i64 (Nat.min n' n)))
      | none => .no)
    | _, _ => .no
  | _, _ => .no
def lenR (i : TI) : AV → R
  | .rl _ _ l => bif Nat.beq i.kd 3 then .ok (.v (.int .i64 l.length)) else .no
  | .rc _ _ l => bif Nat.beq i.kd 3 then .ok (.v (.int .i64 l.length)) else .no
  | .em => bif Nat.beq i.kd 3 then .ok (.v (.int .i64 0)) else .no
  | .ow _ _ n => bif Nat.beq i.kd 3 then .ok (.v (.int .i64 n)) else .no
  | .ws _ _ _ n => bif Nat.beq i.kd 3 then .ok (.v (.int .i64 n)) else .no
  | .sc _ _ n _ _ => bif Nat.beq i.kd 3 then .ok (.v (.int .i64 n)) else .no
  | .iw _ _ _ _ n _ => bif Nat.beq i.kd 3 then .ok (.v (.int .i64 n)) else .no
  | .mw _ _ _ n _ => bif Nat.beq i.kd 3 then .ok (.v (.int .i64 n)) else .no
  | .v (.slice _ n _) => bif Nat.beq i.kd 3 then .ok (.v (.int .i64 n)) else .no
  | .v (.string s) => bif Nat.beq i.kd 5 then .ok (.v (.int .i64 s.size)) else .no
  | .agg _ => bif Nat.beq i.kd 2 then .ok (.v (.int .i64 i.ar)) else .no
  | _ => .no
def capR (i : TI) : AV → R
  | .rc _ _ l => bif Nat.beq i.kd 3 then .ok (.v (.int .i64 l.length)) else .no
  | .em => bif Nat.beq i.kd 3 then .ok (.v (.int .i64 0)) else .no
  | .v (.slice _ _ m) => bif Nat.beq i.kd 3 then .ok (.v (.int .i64 m)) else .no
  | _ => .no
def appA : AV → AV → AV
  | .cons a l, c => .cons a (appA l c)
  | .nil, c => c
  | x, _ => x
def srcK {α : Type} (hp : List AO) (t : Ty) (v : AV) (no : α) (K : Bool → List (El t) → List Nat → α) : α :=
  match v with
  | .rl q t' l => castK t' t l no fun l => K q l []
  | .rc q t' l => castK t' t l no fun l => K q l []
  | .ow j k n => (match getAO hp j with
    | .row q t' _ l => castK t' t l no fun l => K q l []
    | .fz q t' l => castK t' t l no fun l => K q l []
    | _ => no)
  | .ws j k lo n => (match getAO hp j with
    | .row q t' _ l => bif Nat.beq (tsz t') k then castK t' t l no fun l => K q ((l.drop lo).take n) [] else no
    | .fz q t' l => bif Nat.beq (tsz t') k then castK t' t l no fun l => K q ((l.drop lo).take n) [] else no
    | _ => no)
  | .v (.slice none n _) => bif Nat.beq n 0 then K true [] [] else no
  | .em => K true [] []
  | .sc i o n _ _ => (match getAO hp i with
    | .cells c => (match part c o (n * tsz t) with
      | some p => decN t n (unow hp p) no fun q l => K q l (owsOf p)
      | none => no)
    | _ => no)
  | _ => no
def appQ (hp : List AO) (nx : Nat) (e : TypeId) (ie : TI) (t : Ty) (s : AV) (q' : Bool) (l' : List (El t)) (ows : List Nat) : R :=
    match s with
    | .v (.slice none n m) => bif Nat.beq n 0 && Nat.beq m 0 then .act 1 (l'.length ≤ 1000000000) (.ow nx (tsz t) l'.length) (snoc (frz ows hp) (.row q' t e l')) else .no
    | .ow j k n => bif hasN ows j then .no else (match getAO hp j with
      | .row q t0 e0 l => bif Nat.beq e0 e then castK t0 t l .no fun l => .act 1 ((l ++ l').length ≤ 1000000000) (.ow nx (tsz t) (l ++ l').length) (snoc (frz ows (setAO hp j .dead)) (.row (q && q') t e (l ++ l'))) else .no
      | _ => .no)
    | .rc q t0 l => castK t0 t l .no fun l => .act 1 ((l ++ l').length ≤ 1000000000) (.rl (q && q') t (l ++ l')) (frz ows hp)
    | .em => .act 1 (l'.length ≤ 1000000000) (.ow nx (tsz t) l'.length) (snoc (frz ows hp) (.row q' t e l'))
    | .mw j tk x n hd => (match getAO hp j with
      | .mpo ka va kt (.own a e0) none none l => bif Nat.beq e0 e && !(hasN ows j) then castE tk kt x .no fun x => castK a t (lstM kt x l).2 .no fun L => .act 1 ((lstM kt x l).1 = hd ∧ (L ++ l').length ≤ 1000000000) (.ow nx (tsz t) (L ++ l').length) (snoc (frz ows (setAO hp j (.mpo ka va kt (.own a e0) (some x) none l))) (.row false t e (L ++ l'))) else .no
      | _ => .no)
    | _ => .no
def appR (hp : List AO) (nx : Nat) (e : TypeId) (ie : TI) (t : Ty) (s x : AV) : R :=
  srcK hp t x .no fun q' l' ows => appQ hp nx e ie t s (q' || flatTy t) l' ows
def appZ (hp : List AO) (nx : Nat) (e : TypeId) (t : Ty) (z : Value) (s : AV) (n : Int) : R :=
  decK t (ofValues z.cells.toList) .no fun q' y => match s with
    | .ow j k m => (match getAO hp j with
      | .row q t0 e0 l => bif Nat.beq e0 e then castK t0 t l .no fun l => .act 1 (0 ≤ n ∧ (l ++ List.replicate n.toNat y).length ≤ 1000000000) (.ow nx (tsz t) (l ++ List.replicate n.toNat y).length) (snoc (setAO hp j .dead) (.row (q && q') t e (l ++ List.replicate n.toNat y))) else .no
      | _ => .no)
    | .v (.slice none a b) => bif Nat.beq a 0 && Nat.beq b 0 then .act 1 (0 ≤ n ∧ (List.replicate n.toNat y).length ≤ 1000000000) (.ow nx (tsz t) (List.replicate n.toNat y).length) (snoc hp (.row q' t e (List.replicate n.toNat y))) else .no
    | _ => .no
def clearL {α : Type} (l : List α) (lo n : Nat) (y : α) : List α := l.take lo ++ (List.replicate n y ++ l.drop (lo + n))
def clearR (hp : List AO) (k : Nat) (z : Value) (x : AV) : R :=
  match x with
  | .ws j k' lo n => (match getAO hp j with
    | .row q t e l => bif Nat.beq (tsz t) k && Nat.beq k' k then decK t (ofValues z.cells.toList) .no fun q' y => .upd (.tup .nil) j (.row (q && q') t e (clearL l lo n y)) else .no
    | _ => .no)
  | _ => .no
abbrev tyU8 : Ty := .int .u8 .nil
def bytesOf (l : List (El tyU8)) : ByteArray := ⟨(l.map fun x => UInt8.ofNat x.1.toNat).toArray⟩
def ofBytes (s : ByteArray) : List (El tyU8) := s.data.toList.map fun b => ((b.toNat : Int), ())
def txtR (hp : List AO) (v : AV) : R :=
  match v with
  | .sc _ _ _ _ _ => .no
  | v => srcK hp tyU8 v .no fun _ l _ => .ok (.v (.string (bytesOf l)))
def convR (E : Env) (hp : List AO) (nx : Nat) (s i : TI) (v : AV) : R :=
  bif Nat.beq s.kd 3 && Nat.beq i.kd 5 then (match tyOf E.ty s.el with
    | some ie => (match ie.ik with
      | some .u8 => txtR hp v
      | _ => .no)
    | none => .no)
  else bif Nat.beq s.kd 5 && Nat.beq i.kd 3 then (match tyOf E.ty i.el, v with
    | some ie, .v (.string b) => (match ie.ik with
      | some .u8 => .act 1 (b.size ≤ 1000000000) (.ow nx 1 b.size) (snoc hp (.row true tyU8 i.el (ofBytes b)))
      | _ => .no)
    | _, _ => .no)
  else .no
def aggA : AV → Bool
  | .agg _ => true
  | _ => false
def ksT : Ty → List Nat
  | .nil => []
  | .int _ r => 0 :: ksT r
  | .bool r => 1 :: ksT r
  | .str r => 2 :: ksT r
  | .sl _ r => 3 :: ksT r
def numTy : Ty → Bool
  | .nil => true
  | .int _ r => numTy r
  | .bool r => numTy r
  | _ => false
def beqL : List Nat → List Nat → Bool
  | [], [] => true
  | a :: l, b :: m => Nat.beq a b && beqL l m
  | _, _ => false
def numQ (ik : TI) : Ty → Bool
  | .int q .nil => (match ik.ik with | some q' => decide (q = q') | none => false)
  | _ => false
def keyQ (ik : TI) (ka : Bool) (kt : Ty) : Bool :=
  bif ka then ik.ag && numTy kt && (match ik.eq with | some ks => beqL ks (ksT kt) | none => false) else numQ ik kt
def delM {α : Type} (t : Ty) (k : El t) : List (El t × α) → List (El t × α)
  | [] => []
  | (a, v) :: r => bif eqE t k a then r else (a, v) :: delM t k r
def delV (j : Nat) (ka va : Bool) (kt : Ty) (k' : El kt) : (vt : VT) → List (El kt × ElV vt) → R
  | .own _ _, _ => .no
  | .fn, l => .upd (.tup .nil) j (.mpo ka va kt .fn none none (delM kt k' l))
  | .el t, l => .upd (.tup .nil) j (.mpo ka va kt (.el t) none none (delM kt k' l))
def deleteR (E : Env) (hp : List AO) (i : TI) (m k : AV) : R :=
  match m with
  | .mp j => (match tyOf E.ty i.ky, getAO hp j, cellsOf k with
    | some ik, .mpo ka va kt vt none none l, some kc => bif Nat.beq i.kd 4 && keyQ ik ka kt && (aggA k == ka) then decK kt kc .no fun _ k' => delV j ka va kt k' vt l else .no
    | _, _, _ => .no)
  | _ => .no
def delB (E : Env) (hp : List AO) (ts : List TypeId) (l : AV) : R :=
  match ts, l with
  | t :: _, .cons m (.cons k .nil) => (match tyOf E.ty t with
    | some i => deleteR E hp i m k
    | none => .no)
  | _, _ => .no
def callB (E : Env) (hp : List AO) (nx : Nat) (b : Builtin) (ts : List TypeId) (l : AV) : R :=
  match b, ts, l with
  | .min, _, .cons (.v (.int k x)) (.cons (.v (.int _ y)) .nil) => .ok (.v (.int k (if y < x then y else x)))
  | .max, _, .cons (.v (.int k x)) (.cons (.v (.int _ y)) .nil) => .ok (.v (.int k (if y > x then y else x)))
  | .len, t :: _, .cons x .nil => (match tyOf E.ty t with
    | some i => lenR i x
    | none => .no)
  | .cap, t :: _, .cons x .nil => (match tyOf E.ty t with
    | some i => capR i x
    | none => .no)
  | .copy, t :: _, .cons x (.cons y .nil) => (match tyOf E.ty t with
    | some i => (match tyOf E.ty i.el with
      | some ie => bif Nat.beq i.kd 3 then copyR hp ie.sz x y else .no
      | none => .no)
    | none => .no)
  | .clear, t :: _, .cons x .nil => (match tyOf E.ty t with
    | some i => (match tyOf E.ty i.el with
      | some ie => (match ie.ze with
        | some z => bif Nat.beq i.kd 3 then clearR hp ie.sz z x else .no
        | none => .no)
      | none => .no)
    | none => .no)
  | .append, [t, t'], .cons x (.cons y .nil) => (match tyOf E.ty t with
    | some i => (match tyOf E.ty i.el with
      | some ie => (match ie.ro, ie.ze with
        | some ro, some z => bif Nat.beq i.kd 3 && Nat.blt 0 ie.sz && Nat.ble ie.by_ 100000 then (bif Nat.beq t t' then appR hp nx i.el ie ro x y else (match tyOf E.ty t', y with
          | some it, .v (.int _ n) => (match it.ik with
            | some .i64 => appZ hp nx i.el ro z x n
            | _ => .no)
          | _, _ => .no)) else .no
        | _, _ => .no)
      | none => .no)
    | none => .no)
  | _, _, _ => .no
def shut : AV → Bool
  | .v _ => true
  | .nil => true
  | .cons a b => shut a && shut b
  | .agg l => shut l
  | .tup l => shut l
  | .fn _ l => shut l
  | .rl _ _ _ => true
  | .rc _ _ _ => true
  | .em => true
  | .rp _ _ _ => true
  | _ => false
def neat : AV → Bool
  | .v _ => true
  | .nil => true
  | .cons a b => neat a && neat b
  | .agg l => neat l
  | .tup l => neat l
  | .fn _ l => neat l
  | .rl q _ _ => q
  | _ => false
def refs : AV → List Nat
  | .cons a b => refs a ++ refs b
  | .agg l => refs l
  | .tup l => refs l
  | .fn _ l => refs l
  | .gd _ x => refs x
  | .ptr i _ => [i]
  | .sc i _ _ _ _ => [i]
  | .ow i _ _ => [i]
  | .ws i _ _ _ => [i]
  | .op i _ _ _ => [i]
  | .iw i _ _ _ _ _ => [i]
  | .ip i _ _ _ _ _ _ => [i]
  | .mp i => [i]
  | .mw i _ _ _ _ => [i]
  | .mq i _ _ _ _ _ _ => [i]
  | _ => []
def refsO : AO → List Nat
  | .cells l => refs l
  | .mpo _ _ _ _ _ (some (i, _, _)) _ => [i]
  | .itp j => [j]
  | _ => []
def reach (hp : List AO) : Nat → List Nat → List Nat → List Nat
  | 0, _, acc => acc
  | _, [], acc => acc
  | d + 1, i :: r, acc => bif hasN acc i then reach hp d r acc else reach hp d (refsO (getAO hp i) ++ r) (acc ++ [i])
def idx : List Nat → Nat → Option Nat
  | [], _ => none
  | x :: r, i => bif Nat.beq x i then some 0 else (match idx r i with | some j => some (j + 1) | none => none)
def absA (π : List Nat) : AV → Option AV
  | .cons a b => match absA π a, absA π b with | some a, some b => some (.cons a b) | _, _ => none
  | .agg l => match absA π l with | some l => some (.agg l) | none => none
  | .tup l => match absA π l with | some l => some (.tup l) | none => none
  | .fn f l => match absA π l with | some l => some (.fn f l) | none => none
  | .gd b x => match absA π x with | some x => some (.gd b x) | none => none
  | .ptr i o => match idx π i with | some i => some (.ptr i o) | none => none
  | .sc i o n m t => match idx π i with | some i => some (.sc i o n m t) | none => none
  | .ow i k n => match idx π i with | some i => some (.ow i k n) | none => none
  | .ws i k lo n => match idx π i with | some i => some (.ws i k lo n) | none => none
  | .op i k x o => match idx π i with | some i => some (.op i k x o) | none => none
  | .iw i x o k n hd => match idx π i with | some i => some (.iw i x o k n hd) | none => none
  | .ip i x o k y z hd => match idx π i with | some i => some (.ip i x o k y z hd) | none => none
  | .mp i => match idx π i with | some i => some (.mp i) | none => none
  | .mw i t x n hd => match idx π i with | some i => some (.mw i t x n hd) | none => none
  | .mq i t x k y z hd => match idx π i with | some i => some (.mq i t x k y z hd) | none => none
  | x => some x
def absO (π : List Nat) : AO → Option AO
  | .cells l => match absA π l with | some l => some (.cells l) | none => none
  | .mpo ka va kt vt out (some (i, y, r)) l => match idx π i with | some i => some (.mpo ka va kt vt out (some (i, y, r)) l) | none => none
  | .itp j => match idx π j with | some j => some (.itp j) | none => none
  | .void => none
  | .dead => none
  | o => some o
def lentOf (π0 : List Nat) (hp : List AO) : List Nat → Option (List AO)
  | [] => some []
  | i :: r => match absO π0 (getAO hp i), lentOf π0 hp r with | some o, some l => some (o :: l) | _, _ => none
def renI : List Nat → Nat → Nat → Nat
  | [], base, j => base + j
  | i :: _, _, 0 => i
  | _ :: r, base, j + 1 => renI r base j
def renA (f : Nat → Nat) : AV → AV
  | .cons a b => .cons (renA f a) (renA f b)
  | .agg l => .agg (renA f l)
  | .tup l => .tup (renA f l)
  | .fn g l => .fn g (renA f l)
  | .gd b x => .gd b (renA f x)
  | .ptr i o => .ptr (f i) o
  | .sc i o n m t => .sc (f i) o n m t
  | .ow i k n => .ow (f i) k n
  | .ws i k lo n => .ws (f i) k lo n
  | .op i k x o => .op (f i) k x o
  | .iw i x o k n hd => .iw (f i) x o k n hd
  | .ip i x o k y z hd => .ip (f i) x o k y z hd
  | .mp i => .mp (f i)
  | .mw i t x n hd => .mw (f i) t x n hd
  | .mq i t x k y z hd => .mq (f i) t x k y z hd
  | x => x
def renO (f : Nat → Nat) : AO → AO
  | .cells l => .cells (renA f l)
  | .mpo ka va kt vt out (some (i, y, r)) l => .mpo ka va kt vt out (some (f i, y, r)) l
  | .itp j => .itp (f j)
  | o => o
def updAll : List AO → List Nat → List AO → List AO
  | hp, i :: r, o :: l => updAll (setAO hp i o) r l
  | hp, _, _ => hp
def joinO : List AO → List AO → List AO
  | [], m => m
  | o :: r, m => o :: joinO r m
def mapO (f : Nat → Nat) : List AO → List AO
  | [] => []
  | o :: r => renO f o :: mapO f r
def lenO : List AO → Nat
  | [] => 0
  | _ :: r => lenO r + 1
def lenA : AV → Nat
  | .cons _ m => lenA m + 1
  | _ => 0
def wkA : AV → AV
  | .cons a b => .cons (wkA a) (wkA b)
  | .agg l => .agg (wkA l)
  | .tup l => .tup (wkA l)
  | .fn g l => .fn g (wkA l)
  | .gd b x => .gd b (wkA x)
  | .rl _ t l => .rl false t l
  | .rc _ t l => .rc false t l
  | .rp k e o => .rp k (fun y => wkA (e y)) o
  | x => x
def viewW (P : Nat → Nat → AV) (hp : List AO) : AV → AV
  | .cons a b => .cons (viewW P hp a) (viewW P hp b)
  | .agg l => .agg (viewW P hp l)
  | .tup l => .tup (viewW P hp l)
  | .fn g l => .fn g (viewW P hp l)
  | .ptr i o => P i o
  | .ow i k n => (match getAO hp i with
    | .row _ t _ l => .rl false t l
    | .fz _ t l => .rl false t l
    | .mt _ _ t _ _ l => .rl false t l
    | _ => .ow i k n)
  | .ws i k lo n => (match getAO hp i with
    | .row _ t _ l => bif Nat.beq (tsz t) k then .rl false t ((l.drop lo).take n) else .ws i k lo n
    | .fz _ t l => bif Nat.beq (tsz t) k then .rl false t ((l.drop lo).take n) else .ws i k lo n
    | _ => .ws i k lo n)
  | .sc i o n m t => (match getAO hp i with
    | .cells c => (match part c o (n * tsz t) with
      | some p => bif Nat.blt 0 (tsz t) && Nat.ble n m then decN t n p (.sc i o n m t) fun _ l => .rl false t l else .sc i o n m t
      | none => .sc i o n m t)
    | _ => .sc i o n m t)
  | .rl _ t l => .rl false t l
  | .rc _ t l => .rc false t l
  | .rp k e o => .rp k (fun y => wkA (e y)) o
  | x => x
def view (hp : List AO) : Nat → AV → AV
  | 0, x => viewW (fun i o => .ptr i o) hp x
  | d + 1, x => viewW (fun i o => match getAO hp i with
    | .cells l => bif shut (view hp d l) && lenIs l (lenA l) then .rp (lenA l) (fun y => nthD (view hp d l) y) o else .ptr i o
    | _ => .ptr i o) hp x
def neatN : AV → Bool
  | .u => true
  | .v _ => true
  | .nil => true
  | .cons a b => neatN a && neatN b
  | .agg l => neatN l
  | .tup l => neatN l
  | .fn _ l => neatN l
  | .gd _ x => neatN x
  | .ptr _ _ => true
  | .sc _ _ _ _ _ => true
  | .rl q _ _ => q
  | .rc q _ _ => q
  | .em => true
  | .ow _ _ _ => true
  | .ws _ _ _ _ => true
  | .mp _ => true
  | _ => false
def neatH : List AO → Bool
  | [] => true
  | .cells l :: r => neatN l && neatH r
  | .row q _ _ _ :: r => q && neatH r
  | .fz q _ _ :: r => q && neatH r
  | .dead :: r => neatH r
  | _ => false
def viewR (E : Env) (hp : List AO) (nx : Nat) (g : FuncId) (a : AV) : R :=
  bif shut a then (match E.call g a [] with
    | some r => (match r.lent, r.new with
      | [], [] => bif neat r.res then .call r else .no
      | [], nw => bif neatN r.res && neatH nw then .act 2 r.pre (renA (renI [] nx) r.res) (joinO hp (mapO (renI [] nx) nw)) else .no
      | _, _ => .no)
    | none => .no)
  else .no
def liveO : AO → Bool
  | .dead => false
  | .void => false
  | _ => true
def live (hp : List AO) : List Nat → Bool
  | [] => true
  | i :: r => liveO (getAO hp i) && live hp r
def callR (E : Env) (hp : List AO) (nx : Nat) (g : FuncId) (a : AV) : R :=
  bif shut a then (match E.call g a [] with
    | some r => (match r.lent, r.new with
      | [], [] => .call r
      | [], nw => bif E.free g then .no else .act 2 r.pre (renA (renI [] nx) r.res) (joinO hp (mapO (renI [] nx) nw))
      | _, _ => .no)
    | none => .no)
  else bif E.free g || !live hp (reach hp 40 (refs a) []) then .no
  else match absA (reach hp 40 (refs a) []) a, lentOf (reach hp 40 (refs a) []) hp (reach hp 40 (refs a) []) with
    | some a', some ls => (match E.call g a' ls with
      | some r => bif Nat.beq (lenO r.lent) (lenO ls) then .act 2 r.pre (renA (renI (reach hp 40 (refs a) []) nx) r.res) (joinO (updAll hp (reach hp 40 (refs a) []) (mapO (renI (reach hp 40 (refs a) []) nx) r.lent)) (mapO (renI (reach hp 40 (refs a) []) nx) r.new)) else .no
      | none => viewR E hp nx g (view hp 3 a))
    | _, _ => viewR E hp nx g (view hp 3 a)
def callDR (E : Env) (hp : List AO) (nx : Nat) (g : FuncId) (a : AV) : R :=
  bif !live hp (reach hp 40 (refs a) []) then .no
  else match absA (reach hp 40 (refs a) []) a, lentOf (reach hp 40 (refs a) []) hp (reach hp 40 (refs a) []) with
    | some a', some ls => (match E.calld g a' ls with
      | some r => .ans r.pre r.d0 r.ok (fun d => renA (renI (reach hp 40 (refs a) []) nx) (r.out d).res) (fun d => joinO (updAll hp (reach hp 40 (refs a) []) (mapO (renI (reach hp 40 (refs a) []) nx) (r.out d).lent)) (mapO (renI (reach hp 40 (refs a) []) nx) (r.out d).new))
      | none => .no)
    | _, _ => .no
def litCells : Nat → AV → AV → AV
  | 0, _, acc => acc
  | n + 1, z, acc => litCells n z (appA z acc)
def decF {α : Type} (v : AV) (no : α) (K : Nat → α) : α :=
  match v with
  | .fn f .nil => K f
  | _ => no
def decV {α : Type} : (vt : VT) → AV → AV → α → (ElV vt → α) → α
  | .fn, v, _, no, K => decF v no K
  | .el t, _, l, no, K => decK t l no fun _ x => K x
  | .own _ _, _, _, no, _ => no
def outP {t : Ty} : Option (El t) → El t → Prop
  | none, _ => True
  | some x, y => eqE t x y = true
def putS (hp : List AO) (j : Nat) (ka va : Bool) (kt : Ty) (out : Option (El kt)) (k' : El kt) (v : AV) (a : Ty) (e : TypeId) (l : List (El kt × ElV (.own a e))) : R :=
  match v with
  | .ow j2 k n => (match getAO hp j2 with
    | .row _ a' e2 L => bif Nat.beq e e2 && Nat.beq k (tsz a) && !(Nat.beq j j2) then castK a' a L .no fun L => .any (outP out k') fun hd => setAO (setAO hp j2 .dead) j (.mpo ka va kt (.own a e) none none (putM kt k' (hd, L) l)) else .no
    | _ => .no)
  | _ => .no
def putV (j : Nat) (ka va : Bool) (kt : Ty) (out : Option (El kt)) (k' : El kt) (v vc : AV) (vt : VT) (l : List (El kt × ElV vt)) : R :=
  bif (aggA v == va) && out.isNone then decV vt v vc .no fun v' => .set .u j (.mpo ka va kt vt none none (putM kt k' v' l)) else .no
def putE (hp : List AO) (j : Nat) (ka va : Bool) (kt : Ty) (out : Option (El kt)) (k' : El kt) (v vc : AV) (t : Ty) (l : List (El kt × ElV (.el t))) : R :=
  bif (aggA v == va) && out.isNone && !(hasN (owsOf vc) j) then decK t (unow hp vc) .no fun _ v' => putR hp j (owsOf vc) (.mpo ka va kt (.el t) none none (putM kt k' v' l)) else .no
def insV (hp : List AO) (j : Nat) (ka va : Bool) (kt : Ty) (out : Option (El kt)) (k' : El kt) (v vc : AV) : (vt : VT) → List (El kt × ElV vt) → R
  | .own a e, l => putS hp j ka va kt out k' v a e l
  | .fn, l => putV j ka va kt out k' v vc .fn l
  | .el t, l => putE hp j ka va kt out k' v vc t l
def insertR (E : Env) (hp : List AO) (t : TypeId) (m k v : AV) : R :=
  match tyOf E.ty t, m with
  | some i, .mp j => (match tyOf E.ty i.ky, getAO hp j, cellsOf k, cellsOf v with
    | some ik, .mpo ka va kt vt out none l, some kc, some vc => bif Nat.beq i.kd 4 && keyQ ik ka kt && (aggA k == ka) then decK kt kc .no fun _ k' => insV hp j ka va kt out k' v vc vt l else .no
    | _, _, _, _ => .no)
  | _, _ => .no
def tellR (b : Bool) (v : AV) (ok : Bool) : R := bif b then .ok (.tup (.cons v (.cons (.v (.bool ok)) .nil))) else .ok v
def cellV (ag : Bool) (t : Ty) (x : El t) : AV := bif ag then .agg (encC false t x) else nthD (encC false t x) 0
def zeQ (va : Bool) : Value → Bool
  | .agg _ => va
  | .tuple _ => false
  | _ => !va
def foundR (E : Env) (el : TypeId) (fz b va : Bool) (j : Nat) (kt : Ty) (k' : El kt) : (vt : VT) → Option (El kt) → List (El kt × ElV vt) → R
  | .fn, none, l => (match findM kt k' l with
    | some f => tellR b (.fn f .nil) true
    | none => bif fz then tellR b (.v .nilFunc) false else .no)
  | .el t, none, l => (match tyOf E.ty el with
    | some ie => (match ie.ze with
      | some z => bif zeQ va z && Nat.blt 0 (tsz t) then decK t (ofValues z.cells.toList) .no fun _ y => tellR b (cellV va t ((findM kt k' l).getD y)) (findM kt k' l).isSome else .no
      | none => .no)
    | none => .no)
  | .own a _, none, l => (match tyOf E.ty el with
    | some ie => (match ie.ze with
      | some (.slice none 0 0) => tellR b (.mw j kt k' (lstM kt k' l).2.length (lstM kt k' l).1) (findM kt k' l).isSome
      | _ => .no)
    | none => .no)
  | _, some _, _ => .no
def lookupR (E : Env) (hp : List AO) (t : TypeId) (m k : AV) (b : Bool) : R :=
  match tyOf E.ty t, m with
  | some i, .mp j => (match tyOf E.ty i.ky, getAO hp j, cellsOf k with
    | some ik, .mpo ka va kt vt out _ l, some kc => bif Nat.beq i.kd 4 && keyQ ik ka kt && (aggA k == ka) then
        decK kt kc .no fun _ k' => foundR E i.el i.fz b va j kt k' vt out l else .no
    | _, _, _ => .no)
  | _, _ => .no
def valA (va : Bool) : (vt : VT) → ElV vt → AV
  | .fn, f => .fn f .nil
  | .el t, x => bif Nat.blt 0 (tsz t) then cellV va t x else .u
  | .own _ _, _ => .u
def keyA (ka : Bool) (kt : Ty) (x : El kt) : AV := bif Nat.blt 0 (tsz kt) && flatTy kt then cellV ka kt x else .u
def rangeR (hp : List AO) (nx : Nat) (m : AV) : R :=
  match m with
  | .mp j => (match getAO hp j with
    | .mpo ka va kt vt none _ l => .act 1 True (.ptr nx 0) (snoc (setAO hp j (.mpo ka va kt vt none (some (nx, none, l)) l)) (.itp j))
    | _ => .no)
  | _ => .no
def nextR (hp : List AO) (x : AV) : R :=
  match x with
  | .ptr i 0 => (match getAO hp i with
    | .itp j => (match getAO hp j with
      | .mpo ka va kt vt none (some (i', _, left)) l => bif Nat.beq i' i then
          .drw left.length (setAO hp j (.mpo ka va kt vt none none l))
            (fun k => .tup (.cons (.v (.bool true)) (.cons (keyA ka kt (getM kt vt left k).1) (.cons (valA va vt (getM kt vt left k).2) .nil))))
            (fun k => setAO hp j (.mpo ka va kt vt none (some (i, some (getM kt vt left k), left.eraseIdx k)) l)) else .no
      | _ => .no)
    | _ => .no)
  | _ => .no
def entryR (hp : List AO) (x : AV) : R :=
  match x with
  | .ptr i 0 => (match getAO hp i with
    | .itp j => (match getAO hp j with
      | .mpo ka va kt vt none (some (i', some (k, v), _)) _ => bif Nat.beq i' i then .ok (.tup (.cons (keyA ka kt k) (.cons (valA va vt v) .nil))) else .no
      | _ => .no)
    | _ => .no)
  | _ => .no
def emptyQ (lo hi mx : Option AV) (x : AV) : Bool :=
  match lo, mx, hi, x with
  | none, none, some (.v (.int _ (Int.ofNat 0))), .ow _ _ _ => true
  | _, _, _, _ => false
def emptyR (hp : List AO) (nx : Nat) (i : TI) (k : Nat) (lo hi mx : Option AV) (x : AV) : R :=
  match lo, mx, hi, x with
  | none, none, some (.v (.int _ (Int.ofNat 0))), .ow j k' n => bif Nat.beq i.kd 3 && Nat.beq k' k then (match getAO hp j with
    | .row q t e l => bif Nat.beq (tsz t) k then .act 1 True (.ow nx k 0) (snoc (setAO hp j .dead) (.row q t e [])) else .no
    | _ => .no) else .no
  | _, _, _, _ => .no
def sameOp : Option Operand → Option Operand → Bool
  | some (.tmp a), some (.tmp b) => Nat.beq a b
  | some (.const (.int _ a)), some (.const (.int _ b)) => decide (a = b)
  | _, _ => false
def zeroOp : Option Operand → Bool
  | some (.const (.int _ a)) => decide (a = 0)
  | _ => false
def evalOp (E : Env) (ρ : Operand → AV) (hp : List AO) (nx : Nat) (op : Op) : R :=
  match op with
  | .move x => .ok (ρ x)
  | .assign x => .ok (ρ x)
  | .box _ x => lift (cellsOf (ρ x)) fun l => .new (.ptr nx 0) (.cells l)
  | .alloc t => match tyOf E.ty t with
    | some i => match i.ze with
      | some z => .new (.ptr nx 0) (.cells (ofValues z.cells.toList))
      | none => .no
    | none => .no
  | .build t parts => match tyOf E.ty t with
    | some i => match i.ze with
      | some z => bif Nat.beq i.kd 1 then lift (fillA (i.pl[·]?) (ofValues z.cells.toList) (parts.toList.map fun p => (p.1, ρ p.2))) fun l => .ok (.agg l)
        else bif Nat.beq i.kd 2 then (match tyOf E.ty i.el with
          | some ie => lift (fillA (fun j => some (j * ie.sz, ie.sz)) (ofValues z.cells.toList) (parts.toList.map fun p => (p.1, ρ p.2))) fun l => .ok (.agg l)
          | none => .no) else .no
      | none => .no
    | none => .no
  | .load t x => match tyOf E.ty t with
    | some i => loadR i hp (ρ x)
    | none => .no
  | .store t x y => match tyOf E.ty t with
    | some i => storeR i hp (ρ x) (ρ y)
    | none => .no
  | .fieldAddr t x f => match tyOf E.ty t with
    | some i => bif Nat.beq i.kd 1 then match i.fl[f]? with
      | some (off, tf) => match tyOf E.ty tf with
        | some j => bif Nat.blt 0 j.sz then addR off (ρ x) else .no
        | none => .no
      | none => .no else .no
    | none => .no
  | .field t x f => match tyOf E.ty t, ρ x with
    | some i, .agg l => bif Nat.beq i.kd 1 then match i.fl[f]? with
      | some (off, tf) => match tyOf E.ty tf with
        | some j => partR j l off
        | none => .no
      | none => .no else .no
    | _, _ => .no
  | .indexAddr t x y => match tyOf E.ty t, ρ y with
    | some i, .v (.int _ z) => match tyOf E.ty i.el with
      | some ie => indexAddrR i.kd i.ar ie.sz z (ρ x)
      | none => .no
    | _, _ => .no
  | .index t x y => match tyOf E.ty t, ρ x, ρ y with
    | some i, .agg l, .v (.int _ z) => bif Nat.beq i.kd 2 then match tyOf E.ty i.el with
      | some ie => match partR ie l (z.toNat * ie.sz) with
        | .ok v => .ob (0 ≤ z ∧ z < i.ar) v
        | _ => .no
      | none => .no else .no
    | _, _, _ => .no
  | .binOp op t x y _ => binR E op t (ρ x) (ρ y)
  | .unOp op _ x => match ρ x with
    | .v a => unV op a
    | _ => .no
  | .extract x i => match ρ x with
    | .tup l => lift (nth l i) .ok
    | _ => .no
  | .nilCheck x => match ρ x with
    | .ptr i o => .ok (.ptr i o)
    | .rp k e o => .ok (.rp k e o)
    | .op j k x o => .ok (.op j k x o)
    | .fn f c => .ok (.fn f c)
    | _ => .no
  | .call c => match c.callee with
    | .value f => match ρ f with
      | .fn g cap => (match f with
        | .func f0 => bif Nat.beq f0 g then callR E hp nx g (appA (c.args.toList.foldr (fun x l => .cons (ρ x) l) .nil) cap) else .no
        | _ => bif E.free g then .no else callR E hp nx g (appA (c.args.toList.foldr (fun x l => .cons (ρ x) l) .nil) cap))
      | _ => .no
    | .builtin .delete => delB E hp c.argTypes.toList (c.args.toList.foldr (fun x l => .cons (ρ x) l) .nil)
    | .builtin b => callB E hp nx b c.argTypes.toList (c.args.toList.foldr (fun x l => .cons (ρ x) l) .nil)
    | _ => .no
  | .convert s t x => match tyOf E.ty s, tyOf E.ty t, ρ x with
    | some _, some i, .v (.int _ z) => (match i.ik with
      | some k => .ok (.v (.int k (k.wrap z)))
      | none => .no)
    | some is, some i, v => convR E hp nx is i v
    | _, _, _ => .no
  | .makeFunc (.func f) first cap => bif first.isEmpty then .ok (.fn f (cap.toList.foldr (fun x l => .cons (ρ x) l) .nil)) else .no
  | .slice t x lo hi mx => match tyOf E.ty t with
    | some i => match tyOf E.ty i.el, Nat.beq i.kd 5 with
      | some ie, _ => sliceR i ie.sz ie.ro (sameOp hi mx) (zeroOp hi) (lo.map ρ) (hi.map ρ) (mx.map ρ) (ρ x)
      | none, true => sliceR i 0 none false false (lo.map ρ) (hi.map ρ) (mx.map ρ) (ρ x)
      | none, false => .no
    | none => .no
  | .makeSlice t x y => match tyOf E.ty t, ρ x, ρ y with
    | some i, .v (.int kx n), .v (.int ky m) => (match tyOf E.ty i.el with
      | some ie => (match ie.ro, ie.ze with
        | some ro, some z => bif Nat.beq i.kd 3 && Nat.blt 0 ie.sz && Nat.ble ie.by_ 100000 then decK ro (ofValues z.cells.toList) .no fun q e => (match ie.own with
            | none => .act 1 (0 ≤ n ∧ n ≤ m ∧ m ≤ 1000000000) (.ow nx (tsz ro) n.toNat) (snoc hp (.row q ro i.el (List.replicate n.toNat e)))
            | some mk => bif nilM mk (ofValues z.cells.toList) && ownOkM ro mk then .act 1 (0 ≤ n ∧ n ≤ m ∧ m ≤ 1000000000) (.ow nx (tsz ro) n.toNat) (snoc hp (.mt q nilH ro mk i.el (List.replicate n.toNat e))) else .no) else .no
        | _, _ => .no)
      | none => .no)
    | _, _, _ => .no
  | .makeMap t none => match tyOf E.ty t with
    | some i => (match i.mv with
      | some (ka, va, kt, vt) => bif Nat.beq i.kd 4 then .new (.mp nx) (.mpo ka va kt vt none none []) else .no
      | none => .no)
    | none => .no
  | .insert t m k v => insertR E hp t (ρ m) (ρ k) (ρ v)
  | .mapUpdate t m k v => insertR E hp t (ρ m) (ρ k) (ρ v)
  | .lookup t m k b => lookupR E hp t (ρ m) (ρ k) b
  | .range t m => (match tyOf E.ty t with | some i => bif Nat.beq i.kd 4 then rangeR hp nx (ρ m) else .no | none => .no)
  | .next x false => nextR hp (ρ x)
  | .entry x => entryR hp (ρ x)
  | .buildSlice t n parts => match tyOf E.ty t with
    | some i => (match tyOf E.ty i.el with
      | some ie => (match ie.ro, ie.ze with
        | some ro, some z => bif Nat.beq i.kd 3 && Nat.blt 0 ie.sz && Nat.ble n 10000 && Nat.ble ie.sz 1000 then (match fillA (fun j => some (j * ie.sz, ie.sz)) (litCells n (ofValues z.cells.toList) .nil) (parts.toList.map fun p => (p.1, ρ p.2)) with
          | some l => decN ro n (unow hp l) .no fun q xs => (match owsOf l with
            | [] => .new (.ow nx (tsz ro) n) (.row q ro i.el xs)
            | _ => .act 1 True (.ow nx (tsz ro) n) (snoc (frz (owsOf l) hp) (.row q ro i.el xs)))
          | none => .no) else .no
        | _, _ => .no)
      | none => .no)
    | none => .no
  | _ => .no
def emptyN {α : Type} : List α → Nat
  | [] => 1
  | _ :: _ => 0
theorem emptyN_nil {α : Type} {l : List α} {k : Nat} (hk : k < emptyN l + 1) (h : Nat.beq k 1 = true) : l = [] := by
  have := Nat.eq_of_beq_eq_true h
  subst this
  cases l with
  | nil => rfl
  | cons a l => exact absurd hk (by simp [emptyN])
def nilSl : AV → AV → Option Nat
  | .rl _ _ l, .v (.slice none _ _) => some (emptyN l)
  | .rc _ _ l, .v (.slice none _ _) => some (emptyN l)
  | .em, .v (.slice none _ _) => some 1
  | _, _ => none
def nilSR (E : Env) (hp : List AO) (op : BinOp) (t : TypeId) (e : Nat) : R :=
  match tyOf E.ty t with
  | some i => bif Nat.beq i.kd 3 then (match op with
    | .eql => .drw (e + 1) hp (fun k => .v (.bool (Nat.beq k 1))) (fun _ => hp)
    | .neq => .drw (e + 1) hp (fun k => .v (.bool (!Nat.beq k 1))) (fun _ => hp)
    | _ => .no) else .no
  | none => .no
def evalQ (E : Env) (ρ : Operand → AV) (hp : List AO) (nx : Nat) (op : Op) : R :=
  match op with
  | .slice t x lo hi mx => bif emptyQ (lo.map ρ) (hi.map ρ) (mx.map ρ) (ρ x) then (match tyOf E.ty t with
    | some i => (match tyOf E.ty i.el with
      | some ie => emptyR hp nx i ie.sz (lo.map ρ) (hi.map ρ) (mx.map ρ) (ρ x)
      | none => .no)
    | none => .no) else evalOp E ρ hp nx op
  | .call c => (match c.callee with
    | .value f => (match ρ f with
      | .fn g cap => bif hasN E.ds g then callDR E hp nx g (appA (c.args.toList.foldr (fun x l => .cons (ρ x) l) .nil) cap) else evalOp E ρ hp nx (.call c)
      | _ => evalOp E ρ hp nx (.call c))
    | _ => evalOp E ρ hp nx (.call c))
  | .binOp op t x y t' => (match nilSl (ρ x) (ρ y) with
    | some e => nilSR E hp op t e
    | none => evalOp E ρ hp nx (.binOp op t x y t'))
  | op => evalOp E ρ hp nx op
def evalS (E : Env) (sq : Bool) (ρ : Operand → AV) (hp : List AO) (nx : Nat) (op : Op) : R := bif sq then evalQ E ρ hp nx op else evalOp E ρ hp nx op
def obs (fr : Fr) (g : Bool) : List Operand → Prop → Prop
  | [], K => K
  | x :: r, K => match raw fr x with
    | .gd b _ => (g = true → b = true) ∧ obs fr g r K
    | _ => obs fr g r K
def dstAt : List Oper → Nat → Option Nat
  | o :: _, 0 => o.dst
  | _ :: r, n + 1 => dstAt r n
  | [], _ => none
def putK (N : Nat) (fr : Fr) (d : Option Nat) (v : AV) (K : Fr → Prop) : Prop :=
  match d with
  | some d => bif Nat.blt d N then K ((d, v) :: fr) else False
  | none => K fr
def snocK : List AO → AO → (List AO → Prop) → Prop
  | [], x, K => K [x]
  | o :: r, x, K => snocK r x fun r' => K (o :: r')
def setK : List AO → Nat → AO → (List AO → Prop) → Prop
  | [], _, _, _ => False
  | _ :: r, 0, x, K => K (x :: r)
  | o :: r, n + 1, x, K => setK r n x fun r' => K (o :: r')
def forceO (o : AO) (K : AO → Prop) : Prop :=
  match o with
  | .cells l => force l fun l => K (.cells l)
  | .row q t e l => K (.row q t e l)
  | .fz q t l => K (.fz q t l)
  | .mt q H t m e l => K (.mt q H t m e l)
  | .mpo ka va kt vt out it l => K (.mpo ka va kt vt out it l)
  | .itp j => K (.itp j)
  | .dead => K .dead
  | .void => K .void
def guardV (g : Option Bool) (v : AV) : AV :=
  match g with
  | none => v
  | some b => .gd b v
def under (g : Option Bool) (p : Prop) : Prop :=
  match g with
  | none => p
  | some b => b = true → p
def Stuck (fr : Fr) (d : Option Nat) : Prop := False
theorem Stuck.out {fr : Fr} {d : Option Nat} {p : Prop} (h : Stuck fr d) : p := h.elim
attribute [irreducible] Stuck
def forceH : List AO → (List AO → Prop) → Prop
  | [], K => K []
  | o :: r, K => forceO o fun o => forceH r fun r => K (o :: r)
def fork (x : Bool) (p q : Prop) : Prop := (x = true → p) ∧ (x = false → q)
theorem fork_i {x : Bool} {p q : Prop} (h1 : x = true → p) (h2 : x = false → q) : fork x p q := ⟨h1, h2⟩
theorem fork_t {x : Bool} {p q : Prop} (h : x = true) (h1 : p) : fork x p q := ⟨fun _ => h1, fun h' => absurd (h.symm.trans h') (by simp)⟩
theorem fork_f {x : Bool} {p q : Prop} (h : x = false) (h1 : q) : fork x p q := ⟨fun h' => absurd (h.symm.trans h') (by simp), fun _ => h1⟩
theorem fork_out {x : Bool} {p q : Prop} (h : fork x p q) : (x = true → p) ∧ (x = false → q) := h
attribute [irreducible] fork
def every (p : Value → Prop) : Prop := ∀ hd, p hd
theorem every_i {p : Value → Prop} (h : ∀ hd, p hd) : every p := h
theorem every_out {p : Value → Prop} (h : every p) : ∀ hd, p hd := h
attribute [irreducible] every
def everyN (n : Nat) (p : Nat → Prop) : Prop := ∀ k, k < n → p k
theorem everyN_i {n : Nat} {p : Nat → Prop} (h : ∀ k, k < n → p k) : everyN n p := h
theorem everyN_out {n : Nat} {p : Nat → Prop} (h : everyN n p) : ∀ k, k < n → p k := h
attribute [irreducible] everyN
def everyD (ok : List Nat → Prop) (p : List Nat → Prop) : Prop := ∀ d, ok d → p d
theorem everyD_i {ok : List Nat → Prop} {p : List Nat → Prop} (h : ∀ d, ok d → p d) : everyD ok p := h
theorem everyD_out {ok : List Nat → Prop} {p : List Nat → Prop} (h : everyD ok p) : ∀ d, ok d → p d := h
attribute [irreducible] everyD
def stepR (N : Nat) (dr sq : Bool) (fr : Fr) (hp : List AO) (nx : Nat) (d : Option Nat) (g : Option Bool) (r : R) (K : Post) : Prop :=
  match r with
  | .no => Stuck fr d
  | .ok v => force v fun v => (match g with
    | none => putK N fr d v fun fr => K fr hp nx
    | some b => putK N fr d (.gd b v) fun fr => K fr hp nx)
  | .ob p v => force v fun v => (match g with
    | none => p ∧ putK N fr d v fun fr => K fr hp nx
    | some b => (b = true → p) ∧ putK N fr d (.gd b v) fun fr => K fr hp nx)
  | .call r => force r.res fun v => (match g with
    | none => r.pre ∧ putK N fr d v fun fr => K fr hp nx
    | some b => (b = true → r.pre) ∧ putK N fr d (.gd b v) fun fr => K fr hp nx)
  | .new v o => match g, dr with
    | none, false => forceO o fun o => snocK hp o fun hp => putK N fr d v fun fr => K fr hp (nx + 1)
    | _, _ => Stuck fr d
  | .set v i o => match g, dr with
    | none, false => forceO o fun o => setK hp i o fun hp => putK N fr d v fun fr => K fr hp nx
    | _, _ => Stuck fr d
  | .upd v i o => match g, dr with
    | none, false => forceO o fun o => setK hp i o fun hp => putK N fr d v fun fr => K fr hp nx
    | _, _ => Stuck fr d
  | .act m p v hp' => match g, dr with
    | none, false => force v fun v => forceH hp' fun hp' => p ∧ putK N fr d v fun fr => K fr hp' (lenO hp')
    | some b, false => (match sq with
      | true => force v fun v => forceH hp' fun hp' => fork b (p ∧ putK N fr d (.gd b v) fun fr => K fr hp' (lenO hp')) (putK N fr d (.gd b v) fun fr => K fr hp nx)
      | false => Stuck fr d)
    | _, _ => Stuck fr d
  | .drw n over v F => match g, dr, sq with
    | none, false, true => fork (Nat.beq n 0) (forceH over fun hp' => putK N fr d (.tup (.cons (.v (.bool false)) .nil)) fun fr => K fr hp' (lenO hp')) (everyN n fun k => force (v k) fun v => forceH (F k) fun hp' => putK N fr d v fun fr => K fr hp' (lenO hp'))
    | _, _, _ => Stuck fr d
  | .ans p d0 ok v F => match g, dr, sq with
    | none, false, true => p ∧ ok d0 ∧ everyD ok fun q => force (v q) fun v => forceH (F q) fun hp' => putK N fr d v fun fr => K fr hp' (lenO hp')
    | _, _, _ => Stuck fr d
  | .any p F => match g, dr, sq with
    | none, false, true => p ∧ every fun hd => forceH (F hd) fun hp' => putK N fr d .u fun fr => K fr hp' (lenO hp')
    | _, _, _ => Stuck fr d
def guardOf (fr : Fr) (d : Nat) (want : Bool) (K : Bool → Prop) : Prop :=
  match look fr d with
  | .v (.bool b) => K (b == want)
  | .gd c (.v (.bool b)) => K (c && (b == want))
  | _ => False
def pickB (g x : Bool) (a b : AV) (K : Bool → Prop) : Prop :=
  match a, b with
  | .v (.bool p), .v (.bool q) => K (bif x then p else q)
  | .gd ca (.v (.bool p)), .v (.bool q) => (g = true → x = true → ca = true) ∧ K (bif x then p else q)
  | .v (.bool p), .gd cb (.v (.bool q)) => (g = true → x = false → cb = true) ∧ K (bif x then p else q)
  | .gd ca (.v (.bool p)), .gd cb (.v (.bool q)) => (g = true → x = true → ca = true) ∧ (g = true → x = false → cb = true) ∧ K (bif x then p else q)
  | .gd _ .u, .v (.bool q) => (g = true → x = true → False) ∧ K q
  | .v (.bool p), .gd _ .u => (g = true → x = false → False) ∧ K p
  | _, _ => False
def pickO (N : Nat) (fr : Fr) (hp : List AO) (nx : Nat) (d : Option Nat) (g : Option Bool) (x : Bool) (a b : AV) (K : Post) : Prop :=
  match g with
  | none => pickB true x a b fun y => putK N fr d (.v (.bool y)) fun fr => K fr hp nx
  | some g => pickB g x a b fun y => putK N fr d (.gd g (.v (.bool y))) fun fr => K fr hp nx
def obsO (fr : Fr) (g : Option Bool) (l : List Operand) (K : Prop) : Prop :=
  match g with
  | none => obs fr true l K
  | some g => obs fr g l K
def soft (sq : Bool) (g : Option Bool) (r : R) : R :=
  bif sq then (match g, r with
    | some _, .no => .ob False .u
    | _, r => r) else r
def stepO (E : Env) (dr sq : Bool) (fr : Fr) (hp : List AO) (nx : Nat) (o : Oper) (g : Option Bool) (K : Post) : Prop :=
  match o.op with
  | .pick c a b => match opd fr c with
    | .v (.bool x) => obsO fr g [c] (pickO E.N fr hp nx o.dst g x (raw fr a) (raw fr b) K)
    | _ => False
  | op => obsO fr g op.operands.toList (stepR E.N dr sq fr hp nx o.dst g (soft sq g (evalS E sq (opd fr) hp nx op)) K)
def makesO (E : Env) (o : Oper) : Bool := match o.op with
  | .alloc _ => true
  | .box _ _ => true
  | .buildSlice _ _ _ => true
  | .makeSlice _ _ _ => true
  | .call c => (match c.callee with | .builtin .append => true | .value (.func f) => hasN E.ms f | _ => false)
  | _ => false
def stepS (E : Env) (dr sq : Bool) (fr : Fr) (hp : List AO) (nx : Nat) (o : Oper) (g : Bool) (K : Post) : Prop :=
  bif makesO E o then (match sq with
    | true => fork g (stepO E dr sq fr hp nx o none K) (stepR E.N dr sq fr hp nx o.dst (some g) (.ob False .u) K)
    | false => g = true ∧ stepO E dr sq fr hp nx o none K) else stepO E dr sq fr hp nx o (some g) K
def stepG (E : Env) (dr sq : Bool) (all : List Oper) (o : Oper) (fr : Fr) (hp : List AO) (nx : Nat) (K : Post) : Prop :=
  match o.guard with
  | none => stepO E dr sq fr hp nx o none K
  | some (j, want) => match dstAt all j with
    | none => False
    | some d => guardOf fr d want fun g => stepS E dr sq fr hp nx o g K
def runOps (E : Env) (all : List Oper) : List Oper → Fr → List AO → Nat → Post → Prop
  | [], fr, hp, nx, Q => Q fr hp nx
  | o :: rest, fr, hp, nx, Q => stepG E false true all o fr hp nx fun fr hp nx => runOps E all rest fr hp nx Q
def dedN : List Nat → List Nat
  | [] => []
  | x :: r => bif hasN r x then dedN r else x :: dedN r
theorem dedN_mem {j : Nat} : ∀ {l : List Nat}, j ∈ dedN l ↔ j ∈ l
  | [] => Iff.rfl
  | x :: r => by
    have hn : ∀ (l : List Nat) (x : Nat), hasN l x = true → x ∈ l := by
      intro l x
      induction l with
      | nil => intro h; cases h
      | cons y l ih =>
        intro h
        simp only [hasN, Bool.or_eq_true] at h
        rcases h with h | h
        · rw [Nat.eq_of_beq_eq_true h]; exact List.mem_cons_self
        · exact List.mem_cons_of_mem _ (ih h)
    unfold dedN
    cases hq : hasN r x with
    | true =>
      simp only [cond_true, dedN_mem, List.mem_cons]
      exact ⟨.inr, fun h => h.elim (fun e => e ▸ hn r x hq) id⟩
    | false => simp only [cond_false, List.mem_cons, dedN_mem]
def befGo : List (List Nat) → List Oper → List (List Nat)
  | acc, [] => acc
  | acc, o :: r => befGo (acc ++ [dedN ((o.after.toList.filter fun e => Region.binds .any e).flatMap fun e => e.on :: acc.getD e.on [])]) r
def bef (ops : List Oper) : List (List Nat) := befGo [] ops
def lookAt (all : List Oper) (o : Oper) : List Nat :=
  (o.op.operands.toList.filterMap fun | .tmp t => some t | _ => none) ++
  (match o.guard with
   | some (g, _) => (dstAt all g).toList
   | none => [])
def pairOk (tab : List (List Nat)) (all : List Oper) (i k : Nat) (oi ok : Oper) : Bool :=
  match ok.dst with
  | none => true
  | some t => (Nat.beq i k || oi.dst != some t) &&
      (!(lookAt all oi).contains t || (Nat.blt k i && (tab.getD i []).contains k) || (Nat.blt i k && (tab.getD k []).contains i))
def drawOk (ops : List Oper) : Bool :=
  let tab := bef ops
  (ops.zipIdx.all fun (oi, i) => (oi.after.toList.all fun e => !Region.binds .any e || Nat.blt e.on i) && ops.zipIdx.all fun (ok, k) => pairOk tab ops i k oi ok)
def hsen (E : Env) (o : Oper) : Bool :=
  match o.op with
  | .move _ | .assign _ | .extract _ _ | .binOp _ _ _ _ _ | .unOp _ _ _ | .pick _ _ _ | .makeFunc _ _ _ | .fieldAddr _ _ _ | .indexAddr _ _ _ | .field _ _ _ | .index _ _ _ | .nilCheck _ | .slice _ _ _ _ _ | .build _ _ => false
  | .convert s t _ => match tyOf E.ty s, tyOf E.ty t with
    | some i, some j => (bif Nat.beq i.kd 0 then false else true) || (bif Nat.beq j.kd 0 then false else true)
    | _, _ => true
  | .call c => (match c.callee with
    | .value (.func f) => !E.free f
    | .value _ => true
    | .builtin .min => false
    | .builtin .max => false
    | .builtin .len => false
    | _ => true)
  | _ => true
def barrier (tab : List (List Nat)) (hs : List Bool) (i : Nat) : Bool :=
  hs.getD i false && !hs.getD (tab.length + i) false && ((List.range i).all fun j => !hs.getD j false || (tab.getD i []).contains j) && (tab.zipIdx.all fun (l, j) => Nat.ble j i || !hs.getD j false || l.contains i)
def isNew (o : Oper) : Bool := o.guard.isNone && (match o.op with | .alloc _ => true | .box _ _ => true | .buildSlice _ _ _ => true | _ => false)
def hsx (E : Env) (ops : List Oper) : List Bool := ops.map (hsen E) ++ (match E.ms with
  | [] => []
  | _ => ops.map isNew)
def flushK : List (Nat × AO) → List AO → (List AO → Prop) → Prop
  | [], hp, K => K hp
  | (i, o) :: r, hp, K => setK hp i o fun hp => flushK r hp K
def voids : Nat → List AO → (List AO → Prop) → Prop
  | 0, hp, K => K hp
  | n + 1, hp, K => snocK hp .void fun hp => voids n hp K
def slotO (E : Env) (fr : Fr) (hp : List AO) (sl : Nat) (o : Oper) (K : Fr → AO → Prop) : Prop :=
  match getAO hp sl, evalOp E (opd fr) hp sl o.op with
  | .void, .new v ob => obs fr true o.op.operands.toList (force v fun v => forceO ob fun ob => putK E.N fr o.dst v fun fr => K fr ob)
  | _, _ => Stuck fr o.dst
def selPd (sure : List Nat) : List Nat → List (Nat × AO) → List (Nat × AO)
  | i :: r, p :: pd => bif hasN sure i then p :: selPd sure r pd else selPd sure r pd
  | _, _ => []
def runDraw (E : Env) (all : List Oper) (tab : List (List Nat)) (hs : List Bool) : Nat → List Oper → Nat → List (Nat × AO) → List Nat → Fr → List AO → Nat → Post → Prop
  | _, [], _, pd, _, fr, hp, nx, Q => flushK pd hp fun hp => Q fr hp nx
  | i, o :: rest, sl, pd, px, fr, hp, nx, Q => bif barrier tab hs i then flushK pd hp fun hp => stepG E false false all o fr hp nx fun fr hp nx => runDraw E all tab hs (i + 1) rest sl [] [] fr hp nx Q
    else bif isNew o then slotO E fr hp sl o fun fr ob => runDraw E all tab hs (i + 1) rest (sl + 1) (pd ++ [(sl, ob)]) (px ++ [i]) fr hp nx Q
    else flushK (selPd (tab.getD i []) px pd) hp fun hpv => stepG E true false all o fr hpv nx fun fr _ nx => runDraw E all tab hs (i + 1) rest sl pd px fr hp nx Q
def news (tab : List (List Nat)) (hs : List Bool) : Nat → List Oper → Nat
  | _, [] => 0
  | i, o :: r => bif isNew o && !barrier tab hs i then news tab hs (i + 1) r + 1 else news tab hs (i + 1) r
def runDraw0 (E : Env) (all : List Oper) (tab : List (List Nat)) (hs : List Bool) (ops : List Oper) (fr : Fr) (hp : List AO) (nx : Nat) (Q : Post) : Prop :=
  voids (news tab hs 0 ops) hp fun hp => runDraw E all tab hs 0 ops nx [] [] fr hp (nx + news tab hs 0 ops) Q
end Go.Proofs.Ytdhpjpidcbplbaa.Eng

/- ENGINE 2, 2: what an abstract value says of a value in a world, and how that stays. -/
namespace Go.Proofs.Ytdhpjpidcbplbaa.Eng
open Go Go.RowKit
structure Cx where
  w : World
  key : Nat → Nat → Prop     -- the blocks that own object i holds
  loc : Nat → Option Nat     -- where its cells are
  val : Nat → Value          -- the slice that it is
  len : Nat → Nat
  n : Nat
  O : Nat → Prop
  b0 : Nat                   -- from here on memory is new
  one : ∀ i, (val i).oneCell' = true
  at0 : ∀ i A n m, val i = .slice A n m → 0 < n → ∃ b, A = some ⟨b, 0, none⟩
def Cx.bare (c : Cx) : Cx := { c with n := 0 }
def Cx.to (c : Cx) (w : World) : Cx := { c with w := w }
def noK : Nat → Prop := fun _ => False
def qb (q : Bool) (b : Nat) : Nat := if q then b else 0
theorem qb_le (q : Bool) (b : Nat) : qb q b ≤ b := by unfold qb; split <;> omega
theorem qb_mono {q q' : Bool} {b b' : Nat} (hq : q' = true → q = true) (hb : b' ≤ b) : qb q' b' ≤ qb q b := by
  unfold qb
  cases q' with
  | false => simp
  | true => simp [hq rfl]; exact hb
def memL {α : Type} (w : World) (O : Nat → Prop) (b : Nat) (sz : Nat) (R : α → List Value → Prop) (A : Option Addr) (l : List α) : Prop :=
  ∀ i y, l[i]? = some y → ∃ ad : Addr, A = some ad ∧ ad.spot = none ∧ ¬ O ad.block ∧ ad.block < w.heap.size ∧ b ≤ ad.block ∧ ∃ cs : List Value, cs.length = sz ∧ w.rangeAt ad.block (ad.off + i * sz) cs ∧ R y cs
def memE (w : World) (O : Nat → Prop) (b : Nat) : (t : Ty) → El t → List Value → Prop
  | .nil, _, vs => vs = []
  | .int k r, x, vs => ∃ vs', vs = .int k x.1 :: vs' ∧ memE w O b r x.2 vs'
  | .bool r, x, vs => ∃ vs', vs = .bool x.1 :: vs' ∧ memE w O b r x.2 vs'
  | .str r, x, vs => ∃ vs', vs = .string x.1 :: vs' ∧ memE w O b r x.2 vs'
  | .sl a r, x, vs => ∃ A m vs', vs = .slice A x.1.length m :: vs' ∧ x.1.length ≤ m ∧ memL w O b (tsz a) (memE w O b a) A x.1 ∧ memE w O b r x.2 vs'
def sat : AV → Cx → List Value → Prop
  | .u, _, vs => ∃ x, vs = [x]
  | .v x, _, vs => vs = [x]
  | .nil, _, vs => vs = []
  | .cons h t, c, vs => ∃ x r, vs = x :: r ∧ sat h c [x] ∧ sat t c r
  | .agg l, c, vs => ∃ cs, vs = [.agg cs] ∧ sat l c cs.toList
  | .tup l, c, vs => ∃ cs, vs = [.tuple cs] ∧ sat l c cs.toList
  | .fn f l, c, vs => ∃ cs, vs = [.func (.func f) #[] cs] ∧ sat l c cs.toList
  | .gd b x, c, vs => ∃ y, vs = [y] ∧ (b = true → sat x c [y]) ∧ (b = false → y = undef)
  | .ptr i o, c, vs => i < c.n ∧ ∃ b, c.loc i = some b ∧ vs = [.pointer (some ⟨b, o, none⟩)]
  | .sc i o n m _, c, vs => i < c.n ∧ ∃ b, c.loc i = some b ∧ vs = [.slice (some ⟨b, o, none⟩) n m]
  | .rl q t l, c, vs => ∃ A m, vs = [.slice A l.length m] ∧ l.length ≤ m ∧ memL c.w c.O (qb q c.b0) (tsz t) (memE c.w c.O (qb q c.b0) t) A l
  | .rc q t l, c, vs => ∃ A, vs = [.slice A l.length l.length] ∧ memL c.w c.O (qb q c.b0) (tsz t) (memE c.w c.O (qb q c.b0) t) A l
  | .em, c, vs => ∃ A, vs = [.slice A 0 0]
  | .rp k e o, c, vs => ∃ b q, vs = [.pointer (some ⟨b, q + o, none⟩)] ∧ ¬ c.O b ∧ b < c.w.heap.size ∧ ∀ j, j < k → ∃ x, c.w.cell? ⟨b, q + j, none⟩ = some x ∧ sat (e j) c.bare [x]
  | .ow i k n, c, vs => i < c.n ∧ n = c.len i ∧ vs = [c.val i] ∧ ∃ A m, c.val i = .slice A n m ∧ n ≤ m
  | .ws i k lo n, c, vs => i < c.n ∧ lo + n ≤ c.len i ∧ ∃ A m A', c.val i = .slice A (c.len i) m ∧ c.len i ≤ m ∧ (0 < n → A' = A.map (·.add (lo * k))) ∧ vs = [.slice A' n (m - lo)]
  | .op i k x o, c, vs => i < c.n ∧ x < c.len i ∧ ∃ b, (c.val i).ownBlock = some b ∧ vs = [.pointer (some ⟨b, x * k + o, none⟩)]
  | .iw i x o k n hd, c, vs => (i < c.n ∧ x < c.len i ∧ ∃ b, (c.val i).ownBlock = some b) ∧ vs = [hd] ∧ ∃ A m, hd = .slice A n m ∧ n ≤ m ∧ (0 < n → ∃ g, A = some ⟨g, 0, none⟩)
  | .ip i x o k y z hd, c, vs => (i < c.n ∧ x < c.len i ∧ ∃ b, (c.val i).ownBlock = some b) ∧ ∃ g n m, hd = .slice (some ⟨g, 0, none⟩) n m ∧ y < n ∧ vs = [.pointer (some ⟨g, y * k + z, none⟩)]
  | .mp i, c, vs => i < c.n ∧ (∃ b, c.val i = .map (some b)) ∧ vs = [c.val i]
  | .mw i _ _ n hd, c, vs => (i < c.n ∧ ∃ b, c.val i = .map (some b)) ∧ vs = [hd] ∧ ∃ A m, hd = .slice A n m ∧ n ≤ m ∧ (0 < n → ∃ g, A = some ⟨g, 0, none⟩)
  | .mq i _ _ k y z hd, c, vs => (i < c.n ∧ ∃ b, c.val i = .map (some b)) ∧ ∃ g n m, hd = .slice (some ⟨g, 0, none⟩) n m ∧ y < n ∧ vs = [.pointer (some ⟨g, y * k + z, none⟩)]
structure Step (c c' : Cx) : Prop where
  n : c.n ≤ c'.n
  loc : ∀ i b, i < c.n → c.loc i = some b → c'.loc i = some b
  val : ∀ i, i < c.n → c.val i ≠ .bool false → c'.val i = c.val i ∧ c'.len i = c.len i
  O : ∀ b, ¬ c.O b → b < c.w.heap.size → ¬ c'.O b
  sz : c.w.heap.size ≤ c'.w.heap.size
  w : ∀ b, ¬ c.O b → b < c.w.heap.size → c'.w.heap[b]? = c.w.heap[b]?
  b0 : c'.b0 ≤ c.b0
theorem Step.refl (c : Cx) : Step c c := ⟨Nat.le_refl _, fun _ _ _ h => h, fun _ _ _ => ⟨rfl, rfl⟩, fun _ h _ => h, Nat.le_refl _, fun _ _ _ => rfl, Nat.le_refl _⟩
theorem Step.bare {c c' : Cx} (h : Step c c') : Step c.bare c'.bare :=
  ⟨Nat.le_refl _, fun _ _ h => absurd h (Nat.not_lt_zero _), fun _ h => absurd h (Nat.not_lt_zero _), h.O, h.sz, h.w, h.b0⟩
theorem cell_same {w w' : World} {b o : Nat} (h : w'.heap[b]? = w.heap[b]?) : w'.cell? ⟨b, o, none⟩ = w.cell? ⟨b, o, none⟩ := by
  unfold World.cell?
  simp only [h]
theorem range_same {w w' : World} {b o : Nat} {cs : List Value} (h : w'.heap[b]? = w.heap[b]?) (hr : w.rangeAt b o cs) : w'.rangeAt b o cs :=
  fun q v hq => (cell_same h).trans (hr q v hq)
structure Keeps (w : World) (O : Nat → Prop) (b : Nat) (w' : World) (O' : Nat → Prop) (b' : Nat) : Prop where
  hO : ∀ k, ¬ O k → k < w.heap.size → b ≤ k → ¬ O' k
  hs : w.heap.size ≤ w'.heap.size
  hw : ∀ k, ¬ O k → k < w.heap.size → b ≤ k → w'.heap[k]? = w.heap[k]?
  hb : ∀ k, ¬ O k → k < w.heap.size → b ≤ k → b' ≤ k
theorem memL_keeps {α : Type} {w w' : World} {O O' : Nat → Prop} {b b' sz : Nat} {R R' : α → List Value → Prop} {A : Option Addr} {l : List α} (h : Keeps w O b w' O' b') (hR : ∀ y ∈ l, ∀ cs, R y cs → R' y cs) (hm : memL w O b sz R A l) : memL w' O' b' sz R' A l := by
  intro i y hy
  obtain ⟨ad, h1, h2, h3, h4, h5, cs, h6, h7, h8⟩ := hm i y hy
  exact ⟨ad, h1, h2, h.hO _ h3 h4 h5, Nat.lt_of_lt_of_le h4 h.hs, h.hb _ h3 h4 h5, cs, h6, range_same (h.hw _ h3 h4 h5) h7, hR y (List.mem_of_getElem? hy) cs h8⟩
theorem memE_keeps {w w' : World} {O O' : Nat → Prop} {b b' : Nat} (h : Keeps w O b w' O' b') : ∀ (t : Ty) (x : El t) (vs : List Value), memE w O b t x vs → memE w' O' b' t x vs
  | .nil, _, _, hm => hm
  | .int k r, x, vs, ⟨vs', e, hm⟩ => ⟨vs', e, memE_keeps h r x.2 vs' hm⟩
  | .bool r, x, vs, ⟨vs', e, hm⟩ => ⟨vs', e, memE_keeps h r x.2 vs' hm⟩
  | .str r, x, vs, ⟨vs', e, hm⟩ => ⟨vs', e, memE_keeps h r x.2 vs' hm⟩
  | .sl a r, x, vs, ⟨A, m, vs', e, hl, hL, hm⟩ => ⟨A, m, vs', e, hl, memL_keeps h (fun y _ cs hy => memE_keeps h a y cs hy) hL, memE_keeps h r x.2 vs' hm⟩
theorem memR_keeps {w w' : World} {O O' : Nat → Prop} {b b' : Nat} (h : Keeps w O b w' O' b') {t : Ty} {A : Option Addr} {l : List (El t)} (hm : memL w O b (tsz t) (memE w O b t) A l) : memL w' O' b' (tsz t) (memE w' O' b' t) A l :=
  memL_keeps h (fun y _ cs hy => memE_keeps h t y cs hy) hm
theorem Step.keeps {c c' : Cx} (h : Step c c') {q q' : Bool} (hq : q' = true → q = true) : Keeps c.w c.O (qb q c.b0) c'.w c'.O (qb q' c'.b0) :=
  ⟨fun k h1 h2 _ => h.O k h1 h2, h.sz, fun k h1 h2 _ => h.w k h1 h2, fun k _ _ h3 => Nat.le_trans (qb_mono hq h.b0) h3⟩
theorem val_ne {c : Cx} {i : Nat} {A : Option Addr} {n m : Nat} (h : c.val i = .slice A n m) : c.val i ≠ .bool false := by rw [h]; simp
theorem ownBlock_ne {v : Value} {b : Nat} (h : v.ownBlock = some b) : v ≠ .bool false := by
  intro e; subst e; simp [Value.ownBlock] at h
theorem sat_step : ∀ (x : AV) {c c' : Cx} {vs : List Value}, Step c c' → sat x c vs → sat x c' vs
  | .u, _, _, _, _, h => h
  | .v _, _, _, _, _, h => h
  | .nil, _, _, _, _, h => h
  | .cons a b, _, _, _, s, ⟨x, r, e, h1, h2⟩ => ⟨x, r, e, sat_step a s h1, sat_step b s h2⟩
  | .agg l, _, _, _, s, ⟨cs, e, h⟩ => ⟨cs, e, sat_step l s h⟩
  | .tup l, _, _, _, s, ⟨cs, e, h⟩ => ⟨cs, e, sat_step l s h⟩
  | .fn _ l, _, _, _, s, ⟨cs, e, h⟩ => ⟨cs, e, sat_step l s h⟩
  | .gd _ x, _, _, _, s, ⟨y, e, h, h'⟩ => ⟨y, e, fun hb => sat_step x s (h hb), h'⟩
  | .ptr _ _, _, _, _, s, ⟨hi, b, hb, e⟩ => ⟨Nat.lt_of_lt_of_le hi s.n, b, s.loc _ _ hi hb, e⟩
  | .sc _ _ _ _ _, _, _, _, s, ⟨hi, b, hb, e⟩ => ⟨Nat.lt_of_lt_of_le hi s.n, b, s.loc _ _ hi hb, e⟩
  | .rl q t l, _, _, _, s, ⟨A, m, e, hm, h⟩ => ⟨A, m, e, hm, memR_keeps (s.keeps id) h⟩
  | .rc q t l, _, _, _, s, ⟨A, e, h⟩ => ⟨A, e, memR_keeps (s.keeps id) h⟩
  | .em, _, _, _, _, h => h
  | .rp k f o, _, _, _, s, ⟨b, q, e, hO, hb, h⟩ => ⟨b, q, e, s.O _ hO hb, Nat.lt_of_lt_of_le hb s.sz, fun j hj => by
      obtain ⟨x, hx, hs⟩ := h j hj
      exact ⟨x, (cell_same (s.w _ hO hb)).trans hx, sat_step (f j) s.bare hs⟩⟩
  | .ow i _ n, c, c', _, s, ⟨hi, hn, e, A, m, hA, hm⟩ => by
      obtain ⟨h1, h2⟩ := s.val i hi (val_ne hA)
      exact ⟨Nat.lt_of_lt_of_le hi s.n, by rw [h2]; exact hn, by rw [h1]; exact e, A, m, by rw [h1]; exact hA, hm⟩
  | .ws i k lo n, c, c', _, s, ⟨hi, hn, A, m, A', hA, hm, e⟩ => by
      obtain ⟨h1, h2⟩ := s.val i hi (val_ne hA)
      exact ⟨Nat.lt_of_lt_of_le hi s.n, by rw [h2]; exact hn, A, m, A', by rw [h1, h2]; exact hA, by rw [h2]; exact hm, e⟩
  | .op i _ _ _, _, _, _, s, ⟨hi, hx, b, hb, e⟩ => by
      obtain ⟨h1, h2⟩ := s.val i hi (ownBlock_ne hb)
      exact ⟨Nat.lt_of_lt_of_le hi s.n, by rw [h2]; exact hx, b, by rw [h1]; exact hb, e⟩
  | .iw i _ _ _ _ _, _, _, _, s, ⟨⟨hi, hx, b, hb⟩, e⟩ => by
      obtain ⟨h1, h2⟩ := s.val i hi (ownBlock_ne hb)
      exact ⟨⟨Nat.lt_of_lt_of_le hi s.n, by rw [h2]; exact hx, b, by rw [h1]; exact hb⟩, e⟩
  | .ip i _ _ _ _ _ _, _, _, _, s, ⟨⟨hi, hx, b, hb⟩, e⟩ => by
      obtain ⟨h1, h2⟩ := s.val i hi (ownBlock_ne hb)
      exact ⟨⟨Nat.lt_of_lt_of_le hi s.n, by rw [h2]; exact hx, b, by rw [h1]; exact hb⟩, e⟩
  | .mp i, _, _, _, s, ⟨hi, ⟨b, hb⟩, e⟩ => by
      have h1 := (s.val i hi (by rw [hb]; simp)).1
      exact ⟨Nat.lt_of_lt_of_le hi s.n, ⟨b, by rw [h1]; exact hb⟩, by rw [h1]; exact e⟩
  | .mw i _ _ _ _, _, _, _, s, ⟨⟨hi, b, hb⟩, e⟩ => by
      have h1 := (s.val i hi (by rw [hb]; simp)).1
      exact ⟨⟨Nat.lt_of_lt_of_le hi s.n, b, by rw [h1]; exact hb⟩, e⟩
  | .mq i _ _ _ _ _ _, _, _, _, s, ⟨⟨hi, b, hb⟩, e⟩ => by
      have h1 := (s.val i hi (by rw [hb]; simp)).1
      exact ⟨⟨Nat.lt_of_lt_of_le hi s.n, b, by rw [h1]; exact hb⟩, e⟩
theorem sat_bare : ∀ (x : AV) {c : Cx} {vs : List Value}, sat x c.bare vs → sat x c vs
  | .u, _, _, h => h
  | .v _, _, _, h => h
  | .nil, _, _, h => h
  | .cons a b, _, _, ⟨x, r, e, h1, h2⟩ => ⟨x, r, e, sat_bare a h1, sat_bare b h2⟩
  | .agg l, _, _, ⟨cs, e, h⟩ => ⟨cs, e, sat_bare l h⟩
  | .tup l, _, _, ⟨cs, e, h⟩ => ⟨cs, e, sat_bare l h⟩
  | .fn _ l, _, _, ⟨cs, e, h⟩ => ⟨cs, e, sat_bare l h⟩
  | .gd _ x, _, _, ⟨y, e, h, h'⟩ => ⟨y, e, fun hb => sat_bare x (h hb), h'⟩
  | .ptr _ _, _, _, ⟨hi, _⟩ => absurd hi (Nat.not_lt_zero _)
  | .sc _ _ _ _ _, _, _, ⟨hi, _⟩ => absurd hi (Nat.not_lt_zero _)
  | .rl _ _ _, _, _, h => h
  | .rc _ _ _, _, _, h => h
  | .em, _, _, h => h
  | .rp _ _ _, _, _, h => h
  | .ow _ _ _, _, _, ⟨hi, _⟩ => absurd hi (Nat.not_lt_zero _)
  | .ws _ _ _ _, _, _, ⟨hi, _⟩ => absurd hi (Nat.not_lt_zero _)
  | .op _ _ _ _, _, _, ⟨hi, _⟩ => absurd hi (Nat.not_lt_zero _)
  | .iw _ _ _ _ _ _, _, _, ⟨⟨hi, _⟩, _⟩ => absurd hi (Nat.not_lt_zero _)
  | .ip _ _ _ _ _ _ _, _, _, ⟨⟨hi, _⟩, _⟩ => absurd hi (Nat.not_lt_zero _)
  | .mp _, _, _, ⟨hi, _⟩ => absurd hi (Nat.not_lt_zero _)
  | .mw _ _ _ _ _, _, _, ⟨⟨hi, _⟩, _⟩ => absurd hi (Nat.not_lt_zero _)
  | .mq _ _ _ _ _ _ _, _, _, ⟨⟨hi, _⟩, _⟩ => absurd hi (Nat.not_lt_zero _)
def mkOk (mk : Nat × Nat) (n : Nat) : Prop := mk = (0, 0) ∨ n ≤ mk.1
def rowHeap (w : World) (g : Nat) (cur : Array Value) (e : TypeId) : Prop := ∃ mk, w.heap[g]? = some (.cells cur e mk) ∧ mkOk mk cur.size
theorem rowHeap.same {w w' : World} {g : Nat} {cur : Array Value} {e : TypeId} (h : rowHeap w g cur e) (hw : w'.heap[g]? = w.heap[g]?) : rowHeap w' g cur e := by
  obtain ⟨mk, h1, h2⟩ := h; exact ⟨mk, hw.trans h1, h2⟩
theorem rowHeap.of {w : World} {g : Nat} {cur : Array Value} {e : TypeId} (h : w.heap[g]? = some (.cells cur e (0, 0))) : rowHeap w g cur e := ⟨_, h, .inl rfl⟩
theorem rowHeap.cell {w : World} {g : Nat} {cur : Array Value} {e : TypeId} (h : rowHeap w g cur e) (j : Nat) : w.cell? ⟨g, j, none⟩ = cur[j]? := by
  obtain ⟨mk, h1, _⟩ := h; simp [World.cell?, h1]
theorem rowHeap.inj {w : World} {g : Nat} {cur cur' : Array Value} {e e' : TypeId} (h : rowHeap w g cur e) (h' : rowHeap w g cur' e') : cur = cur' := by
  obtain ⟨mk, h1, _⟩ := h
  obtain ⟨mk', h1', _⟩ := h'
  rw [h1] at h1'; injection h1' with h1'; injection h1'
theorem rowHeap.set {w : World} {g : Nat} {cur : Array Value} {e : TypeId} (h : rowHeap w g cur e) (cs : Array Value) (hs : cs.size = cur.size) : rowHeap (w.setRow g cs) g cs e := by
  obtain ⟨mk, h1, h2⟩ := h; exact ⟨mk, setRow_heap w g cur cs e mk h1, by rw [hs]; exact h2⟩
theorem rowHeap.shut {w : World} {g : Nat} {cur : Array Value} {e : TypeId} (h : rowHeap w g cur e) {j : Nat} (hj : j < cur.size) : w.frozen? ⟨g, j, none⟩ = false := by
  obtain ⟨⟨lo, hi⟩, h1, h2⟩ := h
  simp only [World.frozen?, h1]
  rcases h2 with h2 | h2
  · injection h2 with e1 e2; subst e1 e2; simp
  · simp only at h2; simp; omega
theorem run_storeCells_mk (P : Program) (g o : Nat) (t : TypeId) : ∀ (vs : List Value) (i : Nat) (cur : Array Value) (w : World), rowHeap w g cur t → o + i + vs.length ≤ cur.size → (∀ v ∈ vs, v.oneCell' = true) →
    (storeCells ⟨g, o, none⟩ vs i).run P w = .ok () (w.setRow g (cur.toList.take (o + i) ++ vs ++ cur.toList.drop (o + i + vs.length)).toArray)
  | [], i, cur, w, hg, _, _ => by
    simp only [storeCells, List.append_nil, List.length_nil, Nat.add_zero, List.take_append_drop, Array.toArray_toList]
    obtain ⟨mk, h1, _⟩ := hg
    rw [setRow_self w g cur t mk h1]
    rfl
  | v :: rest, i, cur, w, hg, hl, h1 => by
    have hi : o + i < cur.size := by simp at hl; omega
    have hadd : (⟨g, o, none⟩ : Addr).add i = ⟨g, o + i, none⟩ := by unfold Addr.add; split <;> simp_all
    have hcell : w.cell? ⟨g, o + i, none⟩ = some cur[o + i] := by rw [hg.cell]; simp [hi]
    have hfro : w.frozen? ⟨g, o + i, none⟩ = false := hg.shut hi
    have hst : (store ((⟨g, o, none⟩ : Addr).add i) v).run P w = .ok () (w.setRow g (cur.setIfInBounds (o + i) v)) := by
      obtain ⟨mk, hg1, _⟩ := hg
      rw [hadd, Go.run_store P w _ v _ (h1 v (by simp)), hcell]
      simp [hfro, setCell_eq_setRow w g (o + i) cur t mk v hg1]
    have ih := run_storeCells_mk P g o t rest (i + 1) (cur.setIfInBounds (o + i) v) (w.setRow g (cur.setIfInBounds (o + i) v)) (hg.set _ (by simp)) (by simp at hl ⊢; omega) (fun x hx => h1 x (by simp [hx]))
    simp only [storeCells, Sem.run_bind, hst, Result.andThen_ok, ih, setRow_setRow]
    congr 3
    have e := list_seg_step cur.toList (o + i) v rest (by simp at hl ⊢; omega)
    simpa [Array.toList_setIfInBounds, Nat.add_assoc] using e
def rowAt (c : Cx) (i : Nat) (q : Bool) (t : Ty) (e : TypeId) (l : List (El t)) : Prop :=
  0 < tsz t ∧ l.length = c.len i ∧ (q = true → ∀ g, c.key i g → c.b0 ≤ g) ∧ ∃ xs : List Value, xs.length = l.length * tsz t ∧
    ((l = [] ∧ ∃ A, c.val i = .slice A 0 0 ∧ ∀ b, ¬ c.key i b) ∨
      ∃ g cap cur, c.val i = .slice (some ⟨g, 0, none⟩) l.length cap ∧ (∀ b, c.key i b ↔ b = g) ∧ rowHeap c.w g cur e ∧ l.length ≤ cap ∧ cap ≤ maxLen ∧ cur.size = cap * tsz t ∧ cur.toList.take (l.length * tsz t) = xs) ∧
    ∀ j y, l[j]? = some y → memE c.w c.O (qb q c.b0) t y ((xs.drop (j * tsz t)).take (tsz t))
def blkOf : Value → Option Nat
  | .slice (some a) _ (_ + 1) => some a.block
  | _ => none
def memIn (w : World) (O : Nat → Prop) (b : Nat) (e : TypeId) (a : Ty) (l : List (El a)) (hv : Value) : Prop :=
  0 < tsz a ∧ ((l = [] ∧ ∃ A, hv = .slice A 0 0) ∨ ∃ g cap cur, hv = .slice (some ⟨g, 0, none⟩) l.length cap ∧ 0 < cap ∧ rowHeap w g cur e ∧ l.length ≤ cap ∧ cap ≤ maxLen ∧ cur.size = cap * tsz a ∧
    ∀ j y, l[j]? = some y → memE w O b a y ((cur.toList.drop (j * tsz a)).take (tsz a)))
def memM (w : World) (O : Nat → Prop) (b : Nat) (h : Nat → Value) : (t : Ty) → List (Option TypeId) → Nat → El t → List Value → Prop
  | .nil, _, _, _, vs => vs = []
  | .int k r, m, o, x, vs => ∃ vs', vs = .int k x.1 :: vs' ∧ memM w O b h r (tailM m) (o + 1) x.2 vs'
  | .bool r, m, o, x, vs => ∃ vs', vs = .bool x.1 :: vs' ∧ memM w O b h r (tailM m) (o + 1) x.2 vs'
  | .str r, m, o, x, vs => ∃ vs', vs = .string x.1 :: vs' ∧ memM w O b h r (tailM m) (o + 1) x.2 vs'
  | .sl a r, m, o, x, vs => ∃ v vs', vs = v :: vs' ∧ (match headM m with
      | some e => v = h o ∧ memIn w O b e a x.1 (h o)
      | none => ∃ A c, v = .slice A x.1.length c ∧ x.1.length ≤ c ∧ memL w O b (tsz a) (memE w O b a) A x.1) ∧ memM w O b h r (tailM m) (o + 1) x.2 vs'
theorem memIn_keeps {w w' : World} {O O' : Nat → Prop} {b b' : Nat} {e : TypeId} {a : Ty} {l : List (El a)} {hv : Value} (k : Keeps w O b w' O' b') (hw : ∀ g, blkOf hv = some g → w'.heap[g]? = w.heap[g]?) (h : memIn w O b e a l hv) : memIn w' O' b' e a l hv := by
  obtain ⟨h0, h | ⟨g, cap, cur, e1, e2, e3, e4, e5, e6, e7⟩⟩ := h
  · exact ⟨h0, .inl h⟩
  · refine ⟨h0, .inr ⟨g, cap, cur, e1, e2, e3.same (hw g ?_), e4, e5, e6, fun j y hy => memE_keeps k a y _ (e7 j y hy)⟩⟩
    rw [e1]
    cases cap with
    | zero => omega
    | succ n => rfl
theorem memM_keeps {w w' : World} {O O' : Nat → Prop} {b b' : Nat} {h : Nat → Value} (k : Keeps w O b w' O' b') : ∀ (t : Ty) (m : List (Option TypeId)) (o : Nat) (x : El t) (vs : List Value), (∀ p, (ownM m p).isSome = true → ∀ g, blkOf (h (o + p)) = some g → w'.heap[g]? = w.heap[g]?) → memM w O b h t m o x vs → memM w' O' b' h t m o x vs
  | .nil, _, _, _, _, _, hm => hm
  | .int kk r, m, o, x, vs, hw, ⟨vs', e, hm⟩ => ⟨vs', e, memM_keeps k r (tailM m) (o + 1) x.2 vs' (fun p hp g hg => by
      cases m with
      | nil => cases hp
      | cons e m => exact hw (p + 1) hp g (by rw [← Nat.add_assoc, Nat.add_right_comm]; exact hg)) hm⟩
  | .bool r, m, o, x, vs, hw, ⟨vs', e, hm⟩ => ⟨vs', e, memM_keeps k r (tailM m) (o + 1) x.2 vs' (fun p hp g hg => by
      cases m with
      | nil => cases hp
      | cons e m => exact hw (p + 1) hp g (by rw [← Nat.add_assoc, Nat.add_right_comm]; exact hg)) hm⟩
  | .str r, m, o, x, vs, hw, ⟨vs', e, hm⟩ => ⟨vs', e, memM_keeps k r (tailM m) (o + 1) x.2 vs' (fun p hp g hg => by
      cases m with
      | nil => cases hp
      | cons e m => exact hw (p + 1) hp g (by rw [← Nat.add_assoc, Nat.add_right_comm]; exact hg)) hm⟩
  | .sl a r, m, o, x, vs, hw, ⟨v, vs', e, h1, hm⟩ => by
      refine ⟨v, vs', e, ?_, memM_keeps k r (tailM m) (o + 1) x.2 vs' (fun p hp g hg => by
        cases m with
        | nil => cases hp
        | cons e m => exact hw (p + 1) hp g (by rw [← Nat.add_assoc, Nat.add_right_comm]; exact hg)) hm⟩
      cases hh : headM m with
      | some e' =>
        rw [hh] at h1
        refine ⟨h1.1, memIn_keeps k (fun g hg => hw 0 ?_ g hg) h1.2⟩
        cases m with
        | nil => cases hh
        | cons e m => have hh : e = some e' := hh; subst hh; rfl
      | none =>
        rw [hh] at h1
        obtain ⟨A, c, h2, h3, h4⟩ := h1
        exact ⟨A, c, h2, h3, memR_keeps k h4⟩
def mtAt (c : Cx) (i : Nat) (q : Bool) (H : Nat → Nat → Value) (t : Ty) (m : List (Option TypeId)) (e : TypeId) (l : List (El t)) : Prop :=
  0 < tsz t ∧ l.length = c.len i ∧ (q = true → ∀ g, c.key i g → c.b0 ≤ g) ∧
    ((l = [] ∧ ∃ A, c.val i = .slice A 0 0 ∧ ∀ b, ¬ c.key i b) ∨
      ∃ g cap cur, c.val i = .slice (some ⟨g, 0, none⟩) l.length cap ∧ rowHeap c.w g cur e ∧ l.length ≤ cap ∧ cap ≤ maxLen ∧ cur.size = cap * tsz t ∧
        (∀ b, c.key i b ↔ b = g ∨ ∃ x o, x < l.length ∧ (ownM m o).isSome = true ∧ blkOf (H x o) = some b) ∧
        (∀ x o, x < l.length → (ownM m o).isSome = true → blkOf (H x o) ≠ some g) ∧
        (∀ x o x' o' b, x < l.length → x' < l.length → (ownM m o).isSome = true → (ownM m o').isSome = true → blkOf (H x o) = some b → blkOf (H x' o') = some b → x = x' ∧ o = o') ∧
        ∀ j y, l[j]? = some y → memM c.w c.O (qb q c.b0) (H j) t m 0 y ((cur.toList.drop (j * tsz t)).take (tsz t)))
def valR (c : Cx) (va : Bool) : (vt : VT) → ElV vt → Value → Prop
  | .fn, f, v => v = .func (.func f) #[] #[]
  | .el t, x, v => zeQ va v = true ∧ memE c.w c.O (qb false c.b0) t x v.cells.toList
  | .own a e, x, v => v = x.1 ∧ memIn c.w c.O (qb false c.b0) e a x.2 x.1
def blkV : (vt : VT) → ElV vt → Option Nat
  | .own _ _, x => blkOf x.1
  | .fn, _ => none
  | .el _, _ => none
def isOut {t : Ty} : Option (El t) → El t → Bool
  | none, _ => false
  | some x, y => eqE t x y
def valI (c : Cx) (va : Bool) : (vt : VT) → ElV vt → Value → Prop
  | .fn, f, v => v = .func (.func f) #[] #[]
  | .el t, x, v => zeQ va v = true ∧ memE c.w c.O (qb false c.b0) t x v.cells.toList
  | .own _ _, _, _ => True
def entR (ka : Bool) (kt : Ty) (vt : VT) (out : Option (El kt)) (R : ElV vt → Value → Prop) : List MapEntry → List (El kt × ElV vt) → Prop
  | [], [] => True
  | e :: es, p :: l => (e.key = valE ka kt p.1 ∧ (isOut out p.1 = false → R p.2 e.val)) ∧ entR ka kt vt out R es l
  | _, _ => False
def ownB (kt : Ty) (vt : VT) (out : Option (El kt)) (l : List (El kt × ElV vt)) (b : Nat) : Prop := ∃ p, p ∈ l ∧ isOut out p.1 = false ∧ blkV vt p.2 = some b
def apartB (kt : Ty) (vt : VT) (out : Option (El kt)) (l : List (El kt × ElV vt)) : Prop := l.Pairwise fun p q => isOut out p.1 = false → isOut out q.1 = false → ∀ b, blkV vt p.2 = some b → blkV vt q.2 ≠ some b
def itB (c : Cx) {α β : Type} : Option (Nat × α × β) → Nat → Prop
  | none, _ => False
  | some (i, _, _), b => c.loc i = some b
def itAt (c : Cx) (ka va : Bool) (kt : Ty) (vt : VT) (b : Nat) (es : Array MapEntry) (ck : Nat) : Option (Nat × Option (El kt × ElV vt) × List (El kt × ElV vt)) → Prop
  | none => True
  | some (i, last, left) => i < c.n ∧ ∃ r seen, c.loc i = some r ∧ r ≠ b ∧ c.w.heap[r]? = some (.mapIter (some b) ck seen ck) ∧
      entR ka kt vt none (valI c va vt) (es.toList.filter fun e => !seen.contains e.born) left ∧
      ∀ k v, last = some (k, v) → ∃ e, e ∈ es.toList ∧ (∃ s0 : Array Nat, seen = s0.push e.born) ∧ e.key = valE ka kt k ∧ valI c va vt v e.val
def mapAt (c : Cx) (i : Nat) (ka va : Bool) (kt : Ty) (vt : VT) (out : Option (El kt)) (it : Option (Nat × Option (El kt × ElV vt) × List (El kt × ElV vt))) (l : List (El kt × ElV vt)) : Prop :=
  ∃ b es ck, c.val i = .map (some b) ∧ c.w.heap[b]? = some (.map es ck) ∧ Go.MapKept.Stamped es ck ∧ entR ka kt vt out (valR c va vt) es.toList l ∧
    (∀ b', c.key i b' ↔ b' = b ∨ ownB kt vt out l b' ∨ itB c it b') ∧ (∀ b', ownB kt vt out l b' → b' ≠ b ∧ ¬ itB c it b') ∧ apartB kt vt out l ∧ itAt c ka va kt vt b es ck it
theorem valR_keeps {c c' : Cx} {va : Bool} {vt : VT} {x : ElV vt} {v : Value} (k : Keeps c.w c.O (qb false c.b0) c'.w c'.O (qb false c'.b0)) (hw : ∀ g, blkV vt x = some g → c'.w.heap[g]? = c.w.heap[g]?) (h : valR c va vt x v) : valR c' va vt x v := by
  cases vt with
  | fn => exact h
  | el t => exact ⟨h.1, memE_keeps k t x _ h.2⟩
  | own a e => exact ⟨h.1, memIn_keeps k hw h.2⟩
theorem valI_keeps {c c' : Cx} {va : Bool} {vt : VT} {x : ElV vt} {v : Value} (k : Keeps c.w c.O (qb false c.b0) c'.w c'.O (qb false c'.b0)) (h : valI c va vt x v) : valI c' va vt x v := by
  cases vt with
  | fn => exact h
  | el t => exact ⟨h.1, memE_keeps k t x _ h.2⟩
  | own a e => trivial
theorem valR_I {c : Cx} {va : Bool} {vt : VT} {x : ElV vt} {v : Value} (h : valR c va vt x v) : valI c va vt x v := by
  cases vt with
  | fn => exact h
  | el t => exact h
  | own a e => trivial
section
variable {ka : Bool} {kt : Ty} {vt : VT} {out : Option (El kt)} {R R' : ElV vt → Value → Prop}
theorem entR_mono : ∀ {es : List MapEntry} {l : List (El kt × ElV vt)}, (∀ p, p ∈ l → isOut out p.1 = false → ∀ v, R p.2 v → R' p.2 v) → entR ka kt vt out R es l → entR ka kt vt out R' es l
  | [], [], _, _ => trivial
  | [], _ :: _, _, h => h
  | _ :: _, [], _, h => h
  | e :: es, p :: l, hw, h => ⟨⟨h.1.1, fun ho => hw p (by simp) ho _ (h.1.2 ho)⟩, entR_mono (fun q hq => hw q (by simp [hq])) h.2⟩
theorem entR_len : ∀ {es : List MapEntry} {l : List (El kt × ElV vt)}, entR ka kt vt out R es l → es.length = l.length
  | [], [], _ => rfl
  | [], _ :: _, h => h.elim
  | _ :: _, [], h => h.elim
  | e :: es, p :: l, h => by simp [entR_len h.2]
theorem entR_at : ∀ {es : List MapEntry} {l : List (El kt × ElV vt)}, entR ka kt vt out R es l → ∀ (j : Nat) (e : MapEntry), es[j]? = some e → ∃ p, l[j]? = some p ∧ e.key = valE ka kt p.1 ∧ (isOut out p.1 = false → R p.2 e.val)
  | [], [], _, j, e, he => by simp at he
  | [], _ :: _, h, _, _, _ => h.elim
  | _ :: _, [], h, _, _, _ => h.elim
  | e :: es, p :: l, h, 0, e', he => by
    have : e = e' := by simpa using he
    subst this
    exact ⟨p, rfl, h.1⟩
  | e :: es, p :: l, h, j + 1, e', he => entR_at h.2 j e' (by simpa using he)
theorem entR_mem {es : List MapEntry} {l : List (El kt × ElV vt)} (h : entR ka kt vt out R es l) {e : MapEntry} (he : e ∈ es) : ∃ p, p ∈ l ∧ e.key = valE ka kt p.1 ∧ (isOut out p.1 = false → R p.2 e.val) := by
  obtain ⟨j, hj, e1⟩ := List.getElem_of_mem he
  obtain ⟨p, hp, h1⟩ := entR_at h j e (by rw [List.getElem?_eq_getElem hj, e1])
  exact ⟨p, List.mem_of_getElem? hp, h1⟩
end
theorem mapAt_congr {c c' : Cx} {i i' : Nat} {ka va : Bool} {kt : Ty} {vt : VT} {out : Option (El kt)} {it : Option (Nat × Option (El kt × ElV vt) × List (El kt × ElV vt))} {f : Nat → Nat} {l : List (El kt × ElV vt)}
    (hv : c'.val i' = c.val i) (hk : c'.key i' = c.key i) (k : Keeps c.w c.O (qb false c.b0) c'.w c'.O (qb false c'.b0)) (hw : ∀ b, c.key i b → c'.w.heap[b]? = c.w.heap[b]?) (hl : ∀ j r, j < c.n → c.loc j = some r → (∃ z, it = some (j, z)) → f j < c'.n ∧ c'.loc (f j) = some r)
    (h : mapAt c i ka va kt vt out it l) : mapAt c' i' ka va kt vt out (it.map fun z => (f z.1, z.2)) l := by
  obtain ⟨b, es, ck, h1, h2, h3, h4, h5, h6, h7, h8⟩ := h
  have hit : ∀ b', itB c' (it.map fun z => (f z.1, z.2)) b' ↔ itB c it b' := fun b' => by
    cases it with
    | none => exact Iff.rfl
    | some z =>
      obtain ⟨j, last, left⟩ := z
      obtain ⟨hj, r, seen, q1, _⟩ := h8
      have := (hl j r hj q1 ⟨_, rfl⟩).2
      show c'.loc (f j) = some b' ↔ c.loc j = some b'
      rw [this, q1]
  refine ⟨b, es, ck, hv.trans h1, (hw b ((h5 b).2 (.inl rfl))).trans h2, h3, entR_mono (fun p hp ho v hr => valR_keeps k (fun g hg => hw g ((h5 g).2 (.inr (.inl ⟨p, hp, ho, hg⟩)))) hr) h4, fun b' => ?_, fun b' hb => ?_, h7, ?_⟩
  · rw [hk, h5 b', hit b']
  · rw [hit b']; exact h6 b' hb
  · cases it with
    | none => trivial
    | some z =>
      obtain ⟨j, last, left⟩ := z
      obtain ⟨hj, r, seen, q1, q2, q3, q4, q5⟩ := h8
      obtain ⟨p1, p2⟩ := hl j r hj q1 ⟨_, rfl⟩
      refine ⟨p1, r, seen, p2, q2, (hw r ((h5 r).2 (.inr (.inr q1)))).trans q3, entR_mono (fun p _ _ v hr => valI_keeps k hr) q4, fun kk v hlast => ?_⟩
      obtain ⟨e, he, r1, r2, r3⟩ := q5 kk v hlast
      exact ⟨e, he, r1, r2, valI_keeps k r3⟩
theorem it_id {α β : Type} (it : Option (Nat × α × β)) : (it.map fun z => (z.1, z.2)) = it := by cases it <;> rfl
def osat (o : AO) (c : Cx) (i : Nat) : Prop :=
  match o with
  | .cells l => ∃ b cs t, c.loc i = some b ∧ (∀ b', c.key i b' ↔ b' = b) ∧ c.w.heap[b]? = some (.cells cs t (0, 0)) ∧ sat l c cs.toList
  | .row q t e l => rowAt c i q t e l
  | .fz q t l => (∀ b, ¬ c.key i b) ∧ l.length = c.len i ∧ sat (.rl q t l) c [c.val i] ∧ ∀ ad n m, c.val i = .slice (some ad) n m → 0 < n → ad.off = 0
  | .mt q H t m e l => mtAt c i q H t m e l
  | .mpo ka va kt vt out it l => mapAt c i ka va kt vt out it l
  | .itp _ => True
  | .dead => ∀ b, ¬ c.key i b
  | .void => (∀ b, ¬ c.key i b) ∧ c.loc i = none ∧ c.val i = .bool false
theorem osat_keep {o : AO} {c c' : Cx} {i : Nat} (st : Step c c') (hi : i < c.n) (hk : c'.key i = c.key i) (hl : c.loc i = none → c'.loc i = none) (hv : c'.val i = c.val i ∧ c'.len i = c.len i) (hw : ∀ b, c.key i b → c'.w.heap[b]? = c.w.heap[b]?) (h : osat o c i) : osat o c' i := by
  cases o with
  | cells l =>
    obtain ⟨b, cs, t, h1, h2, h3, h4⟩ := h
    exact ⟨b, cs, t, st.loc i b hi h1, by rw [hk]; exact h2, (hw b ((h2 b).2 rfl)).trans h3, sat_step _ st h4⟩
  | row q t e l =>
    obtain ⟨h0, h1, hq, xs, h2, h3, h4⟩ := h
    refine ⟨h0, by rw [hv.2]; exact h1, fun hqt g hg => Nat.le_trans st.b0 (hq hqt g (hk ▸ hg)), xs, h2, ?_, fun j y hy => memE_keeps (st.keeps id) t y _ (h4 j y hy)⟩
    rcases h3 with ⟨e1, A, e2, e3⟩ | ⟨g, cap, cur, e1, e2, e3, r⟩
    · exact .inl ⟨e1, A, by rw [hv.1]; exact e2, by rw [hk]; exact e3⟩
    · exact .inr ⟨g, cap, cur, by rw [hv.1]; exact e1, by rw [hk]; exact e2, e3.same (hw g ((e2 g).2 rfl)), r⟩
  | fz q t l => exact ⟨by rw [hk]; exact h.1, by rw [hv.2]; exact h.2.1, by rw [hv.1]; exact sat_step (.rl q t l) st h.2.2.1, by rw [hv.1]; exact h.2.2.2⟩
  | mt q H t m e l =>
    obtain ⟨h0, h1, hq, h3⟩ := h
    refine ⟨h0, by rw [hv.2]; exact h1, fun hqt g hg => Nat.le_trans st.b0 (hq hqt g (hk ▸ hg)), ?_⟩
    rcases h3 with ⟨e1, A, e2, e3⟩ | ⟨g, cap, cur, e1, e2, e3, e4, e5, e6, e7, e8, e9⟩
    · exact .inl ⟨e1, A, by rw [hv.1]; exact e2, by rw [hk]; exact e3⟩
    · refine .inr ⟨g, cap, cur, by rw [hv.1]; exact e1, e2.same (hw g ((e6 g).2 (.inl rfl))), e3, e4, e5, by rw [hk]; exact e6, e7, e8, fun j y hy => memM_keeps (st.keeps id) t m 0 y _ (fun p hp g' hg' => ?_) (e9 j y hy)⟩
      rw [Nat.zero_add] at hg'
      exact hw g' ((e6 g').2 (.inr ⟨j, p, (List.getElem?_eq_some_iff.1 hy).1, hp, hg'⟩))
  | mpo ka va kt vt out it l =>
    have := mapAt_congr (f := fun j => j) hv.1 hk (st.keeps id) hw (fun j r hj hr _ => ⟨Nat.lt_of_lt_of_le hj st.n, st.loc j r hj hr⟩) h
    rwa [it_id] at this
  | itp j => trivial
  | dead => show ∀ b, ¬ c'.key i b; rw [hk]; exact h
  | void => exact ⟨by rw [hk]; exact h.1, hl h.2.1, by rw [hv.1]; exact h.2.2⟩
structure Bd where
  x : Nat → Prop
  y : Nat → Prop
  z : Nat → Prop
  m : Nat                        -- so many objects are lent: where they are
  loc : Nat → Option Nat
  val : Nat → Value
  len : Nat → Nat
  b0 : Nat
structure Obs (c : Cx) (hp : List AO) : Prop where
  nc : c.n = hp.length
  o : ∀ i o, hp[i]? = some o → osat o c i
  dj : ∀ i j b, i < c.n → j < c.n → c.key i b → c.key j b → i = j
  kb : ∀ i b, i < c.n → c.key i b → c.O b ∧ b < c.w.heap.size
  ol : ∀ b, c.O b → b < c.w.heap.size
  bz : c.b0 ≤ c.w.heap.size
structure Gam (W0 : World) (X : Bd) (N : Nat) (c : Cx) (fr : Fr) (hp : List AO) (nx : Nat) (a : Act) : Prop where
  d : a.defers = []
  z : a.tmps.size = N
  f : ∀ i, sat (look fr i) c [a.tmps.getD i undef]
  nl : nx = hp.length
  ob : Obs c hp
  kx : ∀ i b, i < c.n → c.key i b → b < W0.heap.size → X.x b
  oo : ∀ b, X.y b → c.O b
  oz : ∀ b, c.O b → b < W0.heap.size → X.z b
  xy : ∀ b, X.y b → b < W0.heap.size ∧ ¬ X.x b
  b0 : c.b0 ≤ W0.heap.size
  st : ∀ i, i < X.m → i < c.n ∧ (∀ b, X.loc i = some b → c.loc i = some b) ∧ (X.val i ≠ .bool false → c.val i = X.val i ∧ c.len i = X.len i)
  bb : c.b0 = X.b0
  os : c.w.os = W0.os
  tp : c.w.tape = W0.tape
  ou : c.w.output = W0.output
  sz : W0.heap.size ≤ c.w.heap.size
  kp : ∀ b, b < W0.heap.size → ¬ X.x b → c.w.heap[b]? = W0.heap[b]?
  dr : W0.drawn ≤ c.w.drawn
structure BelowD (B : Nat) (w w' : World) : Prop extends Below B w w' where
  dr : w.drawn ≤ w'.drawn
theorem beq_ne {i j : Nat} (h : ¬ i = j) : Nat.beq i j = false := by
  cases hb : Nat.beq i j with
  | false => rfl
  | true => exact absurd (Nat.eq_of_beq_eq_true hb) h
theorem getD_set (l : Array Value) (i j : Nat) (x : Value) (h : i < l.size) : (l.setIfInBounds i x).getD j undef = if i = j then x else l.getD j undef := by
  by_cases hij : i = j
  · subst hij; simp [Array.getD, h]
  · simp [Array.getD, hij]
    by_cases hj : j < l.size
    · simp [hj, hij]
    · simp [hj]
section
variable {W0 : World} {X : Bd} {N : Nat} {c : Cx} {fr : Fr} {hp : List AO} {nx : Nat} {a : Act}
theorem Gam.nc (h : Gam W0 X N c fr hp nx a) : c.n = hp.length := h.ob.nc
theorem Gam.o (h : Gam W0 X N c fr hp nx a) : ∀ i o, hp[i]? = some o → osat o c i := h.ob.o
theorem Gam.ol (h : Gam W0 X N c fr hp nx a) : ∀ b, c.O b → b < c.w.heap.size := h.ob.ol
theorem Gam.put (h : Gam W0 X N c fr hp nx a) {v : AV} {x : Value} {d : Nat} (hd : d < N) (hv : sat v c [x]) : Gam W0 X N c ((d, v) :: fr) hp nx (a.put (some d) x) :=
  { h with
    d := h.d
    z := by simp [Act.put, h.z]
    f := fun i => by
      have hs : d < a.tmps.size := by rw [h.z]; exact hd
      simp only [Act.put, getD_set _ _ _ _ hs, look]
      by_cases hi : d = i
      · subst hi; simpa using hv
      · have : Nat.beq d i = false := beq_ne hi
        simp only [this, cond_false, if_neg hi]
        exact h.f i }
theorem Gam.turn (h : Gam W0 X N c fr hp nx a) {c' : Cx} {hp' : List AO} (st : Step c c') (ob : Obs c' hp') (kx : ∀ i b, i < c'.n → c'.key i b → b < W0.heap.size → X.x b)
    (oo : ∀ b, X.y b → c'.O b) (oz : ∀ b, c'.O b → b < W0.heap.size → X.z b) (os : c'.w.os = c.w.os) (tp : c'.w.tape = c.w.tape) (ou : c'.w.output = c.w.output)
    (kp : ∀ b, b < W0.heap.size → ¬ X.x b → c'.w.heap[b]? = c.w.heap[b]?) (dr : c.w.drawn ≤ c'.w.drawn) (hb0 : c'.b0 = c.b0 := by rfl) : Gam W0 X N c' fr hp' hp'.length a :=
  ⟨h.d, h.z, fun i => sat_step _ st (h.f i), rfl, ob, kx, oo, oz, h.xy, Nat.le_trans st.b0 h.b0, fun i hi => by
      obtain ⟨h1, h2, h3⟩ := h.st i hi
      refine ⟨Nat.lt_of_lt_of_le h1 st.n, fun b hb => st.loc i b h1 (h2 b hb), fun hv => ?_⟩
      obtain ⟨q1, q2⟩ := h3 hv
      obtain ⟨q3, q4⟩ := st.val i h1 (by rw [q1]; exact hv)
      exact ⟨q3.trans q1, q4.trans q2⟩, hb0.trans h.bb, os.trans h.os, tp.trans h.tp, ou.trans h.ou, Nat.le_trans h.sz st.sz, fun b hb hX => (kp b hb hX).trans (h.kp b hb hX), Nat.le_trans h.dr dr⟩
theorem Gam.below (h : Gam W0 X N c fr hp nx a) {w' : World} (hb : BelowD c.w.heap.size c.w w') : Gam W0 X N (c.to w') fr hp nx a := by
  have st : Step c (c.to w') := ⟨Nat.le_refl _, fun _ _ _ h => h, fun _ _ _ => ⟨rfl, rfl⟩, fun _ h _ => h, hb.size, fun b _ hlt => hb.block b hlt, Nat.le_refl _⟩
  have hg := h.turn (c' := c.to w') (hp' := hp) st ⟨h.nc, fun i o ho => by
      have hi : i < c.n := by rw [h.nc]; exact (List.getElem?_eq_some_iff.1 ho).1
      exact osat_keep st hi rfl (fun h => h) ⟨rfl, rfl⟩ (fun b hk => hb.block b (h.ob.kb i b hi hk).2) (h.o i o ho), h.ob.dj,
      fun i b hi hk => ⟨(h.ob.kb i b hi hk).1, Nat.lt_of_lt_of_le (h.ob.kb i b hi hk).2 hb.size⟩, fun b hO => Nat.lt_of_lt_of_le (h.ol b hO) hb.size, Nat.le_trans h.ob.bz hb.size⟩
    h.kx h.oo h.oz hb.os hb.tape hb.output (fun b hlt _ => hb.block b (Nat.lt_of_lt_of_le hlt h.sz)) hb.dr
  rw [h.nl]
  exact hg
end
theorem force_ok : ∀ (x : AV) {K : AV → Prop}, force x K → K x
  | .u, _, h => h
  | .v x, _, h => by cases x <;> first | exact h | exact h.elim
  | .nil, _, h => h
  | .cons a b, _, h => force_ok b (force_ok a h)
  | .agg l, _, h => force_ok l h
  | .tup l, _, h => force_ok l h
  | .fn _ l, _, h => force_ok l h
  | .gd _ x, _, h => force_ok x h
  | .ptr _ _, _, h => h
  | .sc _ _ _ _ _, _, h => h
  | .rl _ _ _, _, h => h
  | .rc _ _ _, _, h => h
  | .em, _, h => h
  | .rp _ _ _, _, h => h
  | .ow _ _ _, _, h => h
  | .ws _ _ _ _, _, h => h
  | .op _ _ _ _, _, h => h
  | .iw _ _ _ _ _ _, _, h => h
  | .ip _ _ _ _ _ _ _, _, h => h
  | .mp _, _, h => h
  | .mw _ _ _ _ _, _, h => h
  | .mq _ _ _ _ _ _ _, _, h => h
theorem forceO_ok (o : AO) {K : AO → Prop} (h : forceO o K) : K o := by
  cases o with
  | cells l => exact force_ok l h
  | _ => exact h
theorem forceH_ok : ∀ (l : List AO) {K : List AO → Prop}, forceH l K → K l
  | [], _, h => h
  | o :: r, K, h => forceH_ok r (K := fun r => K (o :: r)) (forceO_ok o h)
theorem snocK_ok : ∀ (l : List AO) {x : AO} {K : List AO → Prop}, snocK l x K → K (l ++ [x])
  | [], _, _, h => h
  | o :: r, x, K, h => snocK_ok r (K := fun r' => K (o :: r')) h
theorem setK_ok : ∀ (l : List AO) {n : Nat} {x : AO} {K : List AO → Prop}, setK l n x K → n < l.length ∧ K (l.set n x)
  | [], _, _, _, h => h.elim
  | _ :: r, 0, _, _, h => ⟨Nat.succ_pos _, h⟩
  | o :: r, n + 1, _, K, h => by
    have := setK_ok r (K := fun r' => K (o :: r')) h
    exact ⟨Nat.succ_lt_succ this.1, this.2⟩
theorem putK_ok {N : Nat} {fr : Fr} {d : Option Nat} {v : AV} {K : Fr → Prop} (h : putK N fr d v K) : (∃ i, d = some i ∧ i < N ∧ K ((i, v) :: fr)) ∨ (d = none ∧ K fr) := by
  unfold putK at h
  cases d with
  | none => exact .inr ⟨rfl, h⟩
  | some i =>
    refine .inl ⟨i, rfl, ?_⟩
    simp only at h
    cases hb : Nat.blt i N with
    | true => simp only [hb, cond_true] at h; exact ⟨by simpa [Nat.blt_eq] using hb, h⟩
    | false => simp only [hb, cond_false] at h
theorem lenO_eq : ∀ (l : List AO), lenO l = l.length
  | [] => rfl
  | _ :: r => by simp [lenO, lenO_eq r]
theorem snoc_eq : ∀ (l : List AO) (x : AO), snoc l x = l ++ [x]
  | [], _ => rfl
  | o :: r, x => by simp [snoc, snoc_eq r x]
theorem joinO_eq : ∀ (l m : List AO), joinO l m = l ++ m
  | [], _ => rfl
  | o :: r, m => by simp [joinO, joinO_eq r m]
theorem mapO_eq (f : Nat → Nat) : ∀ (l : List AO), mapO f l = l.map (renO f)
  | [] => rfl
  | o :: r => by simp [mapO, mapO_eq f r]
theorem setAO_eq : ∀ (l : List AO) (i : Nat) (x : AO), setAO l i x = l.set i x
  | [], _, _ => rfl
  | _ :: r, 0, _ => rfl
  | o :: r, n + 1, x => by simp [setAO, setAO_eq r n x]
theorem getAO_eq : ∀ (l : List AO) (x : Nat), getAO l x = (l[x]?).getD .dead
  | [], _ => rfl
  | o :: r, 0 => rfl
  | o :: r, x + 1 => by simpa [getAO] using getAO_eq r x
theorem lenN_eq : ∀ (l : List Nat), lenN l = l.length
  | [] => rfl
  | _ :: r => by simp [lenN, lenN_eq r]
end Go.Proofs.Ytdhpjpidcbplbaa.Eng

/- ENGINE 2, 2B: the run of a code. -/
namespace Go.Proofs.Ytdhpjpidcbplbaa.Eng
open Go Go.RowKit
inductive Ex where
  | normal
  | ret
  | exit (n : Nat)
  | goto (l : Nat)
def Slim (m : Nat) (fr : Fr) (hp : List AO) (nx : Nat) (fr' : Fr) (hp' : List AO) (nx' : Nat) : Prop :=
  ∀ (W0 : World) (X : Bd) (N : Nat) (c : Cx) (a : Act), X.m ≤ m → Gam W0 X N c fr hp nx a → ∃ c' : Cx, c'.w = c.w ∧ c'.b0 = c.b0 ∧ Gam W0 X N c' fr' hp' nx' a
def writesO : List Oper → List Nat
  | [] => []
  | o :: r => (match o.dst with | some d => d :: writesO r | none => writesO r)
def writes : Code → List Nat
  | .region _ ops _ => writesO ops.toList
  | .seq a b => writes a ++ writes b
  | .cond _ a b => writes a ++ writes b
  | .block _ a => writes a
  | .loop a => writes a
  | .scope a => writes a
  | _ => []
def cutF : List Nat → Fr → (Fr → Prop) → Prop
  | _, [], K => K []
  | wr, (s, v) :: r, K => bif hasN wr s then cutF wr r K else cutF (s :: wr) r fun r' => K ((s, v) :: r')
def slots : Fr → List Nat
  | [] => []
  | (s, _) :: r => s :: slots r
def loopP (m : Nat) (base : Fr) (R : Fr → List AO → Nat → (Ex → Post) → Prop) (fr : Fr) (hp : List AO) (nx : Nat) (Q : Ex → Post) : Prop :=
  ∃ I : Nat → Post, ((∀ s, s ∈ slots base → look fr s = look base s) → ∃ n fr' hp' nx', Slim m fr hp nx fr' hp' nx' ∧ I n fr' hp' nx') ∧
    ∀ n fr hp nx, I n fr hp nx → R fr hp nx fun e fr hp nx => match e with
      | .normal => ∃ k fr' hp' nx', k < n ∧ Slim m fr hp nx fr' hp' nx' ∧ I k fr' hp' nx'
      | .ret => Q .ret fr hp nx
      | .exit k => Q (.exit k) fr hp nx
      | .goto k => Q (.goto k) fr hp nx
attribute [irreducible] loopP
def both (p q : Prop) : Prop := p ∧ q
theorem both_i {p q : Prop} (h1 : p) (h2 : q) : both p q := ⟨h1, h2⟩
theorem both_out {p q : Prop} (h : both p q) : p ∧ q := h
attribute [irreducible] both
def alike (p : Prop) : Prop := p
theorem alike_i {p : Prop} (h : p) : alike p := h
theorem alike_out {p : Prop} (h : alike p) : p := h
attribute [irreducible] alike
def isStore (o : Oper) : Bool := match o.op with | .store _ _ _ => true | _ => false
def tail2 (tab : List (List Nat)) (ops : List Oper) : Option (List Oper × Oper × Oper) :=
  match ops.length with
  | n + 2 => match ops.drop n with
    | [s1, s2] => bif isStore s1 && isStore s2 && !(tab.getD (n + 1) []).contains n && ((List.range n).all fun j => (tab.getD n []).contains j && (tab.getD (n + 1) []).contains j) then some (ops.take n, s1, s2) else none
    | _ => none
  | _ => none
def isPut (o : Oper) : Bool := match o.op with | .mapUpdate _ _ _ _ => true | _ => false
def tail1 (tab : List (List Nat)) (ops : List Oper) : Option (List Oper × Oper) :=
  match ops.length with
  | n + 1 => match ops.drop n with
    | [s] => bif isPut s && ((List.range n).all fun j => (tab.getD n []).contains j) then some (ops.take n, s) else none
    | _ => none
  | _ => none
def drawRun (E : Env) (ops : List Oper) (fr : Fr) (hp : List AO) (nx : Nat) (Q : Post) : Prop :=
  match tail2 (bef ops) ops with
  | none => (match tail1 (bef ops) ops with
    | none => runDraw0 E ops (bef ops) (hsx E ops) ops fr hp nx Q
    | some (pre, s) => runDraw0 E ops (bef ops) (hsx E ops) pre fr hp nx fun fr hp nx => runOps E ops [s] fr hp nx Q)
  | some (pre, s1, s2) => runDraw0 E ops (bef ops) (hsx E ops) pre fr hp nx fun fr hp nx => runOps E ops [s1, s2] fr hp nx fun fr1 hp1 nx1 =>
    both (runOps E ops [s2, s1] fr hp nx fun fr2 hp2 nx2 => alike (fr2 = fr1 ∧ hp2 = hp1 ∧ nx2 = nx1)) (Q fr1 hp1 nx1)
def rotU (i k j : Nat) : Nat := bif Nat.blt j i then j else bif Nat.blt j k then j + 1 else bif Nat.beq j k then i else j
def rotD (i k j : Nat) : Nat := bif Nat.blt j i then j else bif Nat.beq j i then k else bif Nat.ble j k then j - 1 else j
def relab (f : Nat → Nat) (o : Oper) : Oper := { o with after := ⟨o.after.toList.map fun e => { e with on := f e.on }⟩, guard := o.guard.map fun g => (f g.1, g.2) }
def waits (s : Nat) (o : Oper) : Oper := { o with after := ⟨o.after.toList ++ [⟨s, .data⟩]⟩ }
def ops1 (ops : List Oper) (i k : Nat) : List Oper := (List.range ops.length).map fun j => bif Nat.beq j k then waits i (ops.getD j default) else ops.getD j default
def opsG (ops : List Oper) (i k : Nat) (σ ρ : Nat → Nat) : List Oper := (List.range ops.length).map fun j => bif Nat.beq j (ρ i) then waits (ρ k) (relab ρ (ops.getD (σ j) default)) else relab ρ (ops.getD (σ j) default)
def edgesOk (ops : List Oper) : Bool := ops.zipIdx.all fun (o, i) => o.after.toList.all fun e => !Region.binds .any e || Nat.blt e.on i
def fnOf (l : List Nat) (j : Nat) : Nat := match l[j]? with | some x => x | none => j
def permOk (n : Nat) (s r : List Nat) : Bool := Nat.beq s.length n && Nat.beq r.length n && (List.range n).all fun j => Nat.beq (fnOf r (fnOf s j)) j && Nat.beq (fnOf s (fnOf r j)) j && Nat.blt (fnOf s j) n && Nat.blt (fnOf r j) n
def allIn (acc : List Nat) : List Nat → Bool
  | [] => true
  | x :: r => hasN acc x && allIn acc r
def firstR (acc : List Nat) : Nat → List (List Nat) → Option Nat
  | _, [] => none
  | j, l :: r => bif !hasN acc j && allIn acc l then some j else firstR acc (j + 1) r
def topoGo (tab : List (List Nat)) : Nat → List Nat → List Nat
  | 0, acc => acc
  | n + 1, acc => match firstR acc 0 tab with
    | some j => topoGo tab n (acc ++ [j])
    | none => acc
def placeN (x : Nat) : List Nat → Nat
  | [] => 0
  | y :: r => bif Nat.beq x y then 0 else placeN x r + 1
def waitTab (ops : List Oper) (i k : Nat) : List (List Nat) := ops.zipIdx.map fun (o, j) => (bif Nat.beq j i then [k] else []) ++ o.after.toList.filterMap fun e => bif Region.binds .any e then some e.on else none
def topoS (ops : List Oper) (i k : Nat) : List Nat := topoGo (waitTab ops i k) ops.length []
def forceN {α : Type} : List Nat → (List Nat → α) → α
  | [], K => K []
  | x :: r, K => forceN r fun r' => K (x :: r')
def opsT (ops : List Oper) (i k : Nat) (s r : List Nat) : List Oper := bif permOk ops.length s r then opsG ops i k (fnOf s) (fnOf r) else opsG ops i k (rotD i k) (rotU i k)
def ops2 (ops : List Oper) (i k : Nat) : List Oper :=
  bif edgesOk (opsG ops i k (rotU i k) (rotD i k)) then opsG ops i k (rotU i k) (rotD i k)
  else bif edgesOk (opsG ops i k (rotD i k) (rotU i k)) then opsG ops i k (rotD i k) (rotU i k)
  else opsT ops i k (topoS ops i k) ((List.range ops.length).map fun j => placeN j (topoS ops i k))
def closO (o : Oper) : Bool := match o.op with | .call c => (match c.callee with | .value (.func _) => false | .value _ => true | _ => false) | _ => false
def loadO (o : Oper) : Bool := match o.op with | .load _ _ => true | _ => false
def storeO (o : Oper) : Bool := match o.op with | .store _ _ _ => true | _ => false
def appO (o : Oper) : Bool := match o.op with | .call c => (match c.callee with | .builtin .append => true | _ => false) | _ => false
def idxWhere (p : Oper → Bool) : Nat → List Oper → List Nat
  | _, [] => []
  | n, o :: r => bif p o then n :: idxWhere p (n + 1) r else idxWhere p (n + 1) r
def nthN : List (List Nat) → Nat → List Nat
  | [], _ => []
  | l :: _, 0 => l
  | _ :: r, n + 1 => nthN r n
def badWith (tab : List (List Nat)) (m : Nat) : List Nat → Option (Nat × Nat)
  | [] => none
  | l :: r => bif hasN (nthN tab m) l || hasN (nthN tab l) m then badWith tab m r else bif Nat.blt l m then some (l, m) else some (m, l)
def badOf (tab : List (List Nat)) (ls : List Nat) : List Nat → Option (Nat × Nat)
  | [] => none
  | m :: r => match badWith tab m ls with
    | some p => some p
    | none => badOf tab ls r
def callM (ms : List FuncId) (o : Oper) : Bool := match o.op with | .call c => (match c.callee with | .value (.func f) => hasN ms f | _ => false) | _ => false
def findBad (ms : List FuncId) (tab : List (List Nat)) (ops : List Oper) : Option (Nat × Nat) :=
  match badOf tab (idxWhere loadO 0 ops) (idxWhere (fun o => closO o || storeO o || appO o) 0 ops) with
  | some (i, k) => bif Nat.blt i k && Nat.blt k ops.length then some (i, k) else none
  | none => (match ms with
    | [] => none
    | ms => match badOf tab (idxWhere (callM ms) 0 ops) (idxWhere (fun o => loadO o || closO o || storeO o || appO o || isNew o) 0 ops) with
      | some (i, k) => bif Nat.blt i k && Nat.blt k ops.length then some (i, k) else none
      | none => none)
def countD : List Oper → Nat
  | [] => 0
  | o :: r => match o.dst with | some _ => countD r + 1 | none => countD r
def lookAll (f : Fr) : List Nat → List AV
  | [] => []
  | s :: r => look f s :: lookAll f r
def takeN : Nat → Fr → List Nat
  | n + 1, (s, _) :: r => s :: takeN n r
  | _, _ => []
def dropN : Nat → Fr → Fr
  | n + 1, _ :: r => dropN n r
  | 0, f => f
  | _, [] => []
def drawAll (E : Env) : Nat → List Oper → Fr → List AO → Nat → Post → Prop
  | 0, ops, fr, hp, nx, Q => drawOk ops = true ∧ drawRun E ops fr hp nx Q
  | d + 1, ops, fr, hp, nx, Q => match findBad E.ms (bef ops) ops with
    | none => drawOk ops = true ∧ drawRun E ops fr hp nx Q
    | some (i, k) => drawAll E d (ops1 ops i k) fr hp nx fun fr1 hp1 nx1 =>
      both (drawAll E d (ops2 ops i k) fr hp nx fun fr2 hp2 nx2 => alike ((dropN (countD ops) fr2, lookAll fr2 (takeN (countD ops) fr1 ++ takeN (countD ops) fr2)) = (dropN (countD ops) fr1, lookAll fr1 (takeN (countD ops) fr1 ++ takeN (countD ops) fr2)) ∧ hp2 = hp1 ∧ nx2 = nx1)) (Q fr1 hp1 nx1)
def sameS (a b : Oper) : Bool :=
  match a.op, b.op with
  | .mapUpdate t (.tmp x) (.tmp y) (.tmp z), .mapUpdate t' (.tmp x') (.tmp y') (.tmp z') => Nat.beq t t' && Nat.beq x x' && Nat.beq y y' && Nat.beq z z' && a.dst.isNone && b.dst.isNone && a.guard.isNone
  | _, _ => false
def drawT0 (E : Env) (s : Oper) (ops : List Oper) (fr : Fr) (hp : List AO) (nx : Nat) (K : Post) : Prop :=
  match tail1 (bef ops) ops with
  | some (pre, s') => bif sameS s' s then runDraw0 E ops (bef ops) (hsx E ops) pre fr hp nx K else False
  | none => False
def drawAllT (E : Env) (s : Oper) : Nat → List Oper → Fr → List AO → Nat → Post → Prop
  | 0, ops, fr, hp, nx, K => drawOk ops = true ∧ drawT0 E s ops fr hp nx K
  | d + 1, ops, fr, hp, nx, K => match findBad E.ms (bef ops) ops with
    | none => drawOk ops = true ∧ drawT0 E s ops fr hp nx K
    | some (i, k) => drawAllT E s d (ops1 ops i k) fr hp nx fun fr1 hp1 nx1 =>
      both (drawAllT E s d (ops2 ops i k) fr hp nx fun fr2 hp2 nx2 => alike ((dropN (countD ops) fr2, lookAll fr2 (takeN (countD ops) fr1 ++ takeN (countD ops) fr2)) = (dropN (countD ops) fr1, lookAll fr1 (takeN (countD ops) fr1 ++ takeN (countD ops) fr2)) ∧ hp2 = hp1 ∧ nx2 = nx1)) (K fr1 hp1 nx1)
def drawTop (E : Env) (ops : List Oper) (fr : Fr) (hp : List AO) (nx : Nat) (Q : Post) : Prop :=
  match tail1 (bef ops) ops with
  | none => drawAll E 6 ops fr hp nx Q
  | some (_, s) => match findBad E.ms (bef ops) ops with
    | some _ => drawAllT E s 6 ops fr hp nx fun fr hp nx => stepO E false true fr hp nx s none Q
    | none => drawAll E 6 ops fr hp nx Q
def frzC1 (hp : List AO) (i : Nat) : List AO :=
  match getAO hp i with
  | .cells l => bif hasN (owsOf l) i then hp else setAO (frz (owsOf l) hp) i (.cells (unow hp l))
  | _ => hp
def frzCs : Nat → Nat → List AO → List AO
  | 0, _, hp => hp
  | n + 1, i, hp => frzCs n (i + 1) (frzC1 hp i)
def preF (E : Env) (ops : List Oper) (hp : List AO) (K : List AO → Prop) : Prop :=
  match E.fz, idxWhere (callM E.ms) 0 ops with
  | true, _ :: _ => forceH (frzCs (lenO hp) 0 hp) K
  | _, _ => K hp
def run (E : Env) : Code → Fr → List AO → Nat → (Ex → Post) → Prop
  | .skip, fr, hp, nx, Q => Q .normal fr hp nx
  | .region _ ops dr, fr, hp, nx, Q => (match dr with
    | false => runOps E ops.toList ops.toList fr hp nx (Q .normal)
    | true => preF E ops.toList hp fun hp => drawTop E ops.toList fr hp nx (Q .normal))
  | .seq a b, fr, hp, nx, Q => run E a fr hp nx fun e fr hp nx => match e with
    | .normal => run E b fr hp nx Q
    | .ret => Q .ret fr hp nx
    | .exit n => Q (.exit n) fr hp nx
    | .goto n => Q (.goto n) fr hp nx
  | .cond c a b, fr, hp, nx, Q => match raw fr c with
    | .v (.bool x) => fork x (run E a fr hp nx Q) (run E b fr hp nx Q)
    | _ => False
  | .block id c, fr, hp, nx, Q => run E c fr hp nx fun e fr hp nx => match e with
    | .exit n => bif Nat.beq n id then Q .normal fr hp nx else Q (.exit n) fr hp nx
    | .normal => Q .normal fr hp nx
    | .ret => Q .ret fr hp nx
    | .goto n => Q (.goto n) fr hp nx
  | .loop c, fr, hp, nx, Q => cutF (writes c) fr fun base => loopP E.m base (run E c) fr hp nx Q
  | .exit n, fr, hp, nx, Q => Q (.exit n) fr hp nx
  | .ret, fr, hp, nx, Q => Q .ret fr hp nx
  | .label _, fr, hp, nx, Q => Q .normal fr hp nx
  | .goto n, fr, hp, nx, Q => Q (.goto n) fr hp nx
  | _, _, _, _, _ => False
def noG (Q : Ex → Post) : Ex → Post
  | .goto _, _, _, _ => False
  | .normal, fr, hp, nx => Q .normal fr hp nx
  | .ret, fr, hp, nx => Q .ret fr hp nx
  | .exit n, fr, hp, nx => Q (.exit n) fr hp nx
def jumpR (E : Env) (c : Code) (Q : Ex → Post) : Ex → Post
  | .goto l, fr, hp, nx => (match findLabel c l with
    | some rest => run E rest fr hp nx (noG Q)
    | none => False)
  | .normal, fr, hp, nx => Q .normal fr hp nx
  | .ret, fr, hp, nx => Q .ret fr hp nx
  | .exit n, fr, hp, nx => Q (.exit n) fr hp nx
def runF (E : Env) : Code → Fr → List AO → Nat → (Ex → Post) → Prop
  | .scope c, fr, hp, nx, Q => run E c fr hp nx (jumpR E c Q)
  | c, fr, hp, nx, Q => run E c fr hp nx Q
end Go.Proofs.Ytdhpjpidcbplbaa.Eng

/- ENGINE 2, 3: each operation over abstract values is what the model's is. -/
namespace Go.Proofs.Ytdhpjpidcbplbaa.Eng
open Go Go.RowKit
structure TIok (P : Program) (t : TypeId) (i : TI) : Prop where
  sz : (P.info? t).map (·.size) = some i.sz
  ze : ∀ z, i.ze = some z → (P.info? t).map (·.zero) = some (some z)
  ag : (P.underlying t).map TypeDesc.isRow = some i.ag
  st : i.kd = 1 → ∃ fs : Array Field, P.underlying t = some (.struct fs) ∧ fs.toList.map (fun f => (f.offset, f.type)) = i.fl ∧ fs.toList.mapM (fun f => (P.info? f.type).map fun j => (f.offset, j.size)) = some i.pl
  ar : i.kd = 2 → P.underlying t = some (.array i.ar i.el)
  sl : i.kd = 3 → P.underlying t = some (.slice i.el)
  tx : i.kd = 5 → P.underlying t = some .string
  eq : ∀ ks, i.eq = some ks → P.eqGuardType P.depth t = false ∧ flatD P 100 t = some ks
  ik : ∀ k, i.ik = some k → P.underlying t = some (.int k)
  by_ : (P.info? t).map (·.bytes) = some i.by_
  ro : ∀ τ, i.ro = some τ → tsz τ = i.sz
  zs : ∀ z, i.ze = some z → z.cells.size = i.sz
  mp : i.kd = 4 → P.underlying t = some (.map i.ky i.el)
  mz : i.kd = 4 → i.fz = true → (P.info? i.el).map (·.zero) = some (some .nilFunc)
  pt : i.kd = 6 → ∃ e, P.underlying t = some (.pointer e)
theorem nth_ok {c : Cx} : ∀ (l : AV) (i : Nat) {v : AV} {cs : List Value}, nth l i = some v → sat l c cs → ∃ x, cs[i]? = some x ∧ sat v c [x]
  | .cons a b, 0, v, cs, h, ⟨x, r, e, h1, _⟩ => by
    injection h with h; subst h e
    exact ⟨x, rfl, h1⟩
  | .cons a b, i + 1, v, cs, h, ⟨x, r, e, _, h2⟩ => by
    subst e
    obtain ⟨y, hy, hs⟩ := nth_ok b i h h2
    exact ⟨y, by simpa using hy, hs⟩
theorem tk_ok {c : Cx} : ∀ (l : AV) (n : Nat) {p : AV} {cs : List Value}, tk l n = some p → sat l c cs → n ≤ cs.length ∧ sat p c (cs.take n)
  | l, 0, p, cs, h, _ => by
    have : p = .nil := by cases l <;> (injection h with h; exact h.symm)
    subst this
    exact ⟨Nat.zero_le _, by simp [sat]⟩
  | .cons a b, n + 1, p, cs, h, ⟨x, r, e, h1, h2⟩ => by
    simp only [tk, Option.map_eq_some_iff] at h
    obtain ⟨q, hq, rfl⟩ := h
    subst e
    obtain ⟨hn, hs⟩ := tk_ok b n hq h2
    exact ⟨by simpa using hn, ⟨x, r.take n, by simp, h1, hs⟩⟩
theorem part_ok {c : Cx} : ∀ (l : AV) (o n : Nat) {p : AV} {cs : List Value}, part l o n = some p → sat l c cs → o + n ≤ cs.length ∧ sat p c ((cs.drop o).take n)
  | l, 0, n, p, cs, h, hs => by
    have h' : tk l n = some p := by cases l <;> exact h
    simpa using tk_ok l n h' hs
  | .cons a b, o + 1, n, p, cs, h, ⟨x, r, e, _, h2⟩ => by
    subst e
    have := part_ok b o n h h2
    exact ⟨by simp; omega, by simpa using this.2⟩
theorem over_ok {c : Cx} : ∀ (l x : AV) {l' : AV} {cs xs : List Value}, over l x = some l' → sat l c cs → sat x c xs → xs.length ≤ cs.length ∧ sat l' c (xs ++ cs.drop xs.length)
  | l, .nil, l', cs, xs, h, hs, hx => by
    have h' : l = l' := by cases l <;> (injection h)
    have hx' : xs = [] := hx
    subst h' hx'
    exact ⟨Nat.zero_le _, by simpa using hs⟩
  | .cons a b, x, l', cs, xs, h, ⟨x0, q, e, hx0, h2⟩, hx => by
    cases x with
    | nil =>
      injection h with h
      have hx' : xs = [] := hx
      subst h hx' e
      exact ⟨Nat.zero_le _, by simpa using ⟨x0, q, rfl, hx0, h2⟩⟩
    | cons y0 r =>
      obtain ⟨y, z, ey, hy1, hy2⟩ := hx
      simp only [over, Option.map_eq_some_iff] at h
      obtain ⟨m, hm, rfl⟩ := h
      subst e ey
      obtain ⟨hn, hs⟩ := over_ok b r hm h2 hy2
      exact ⟨by simpa using hn, ⟨y, z ++ q.drop z.length, by simp, hy1, hs⟩⟩
    | _ => cases h
theorem setc_ok {c : Cx} : ∀ (l : AV) (o : Nat) (x : AV) {l' : AV} {cs xs : List Value}, setc l o x = some l' → sat l c cs → sat x c xs →
    o + xs.length ≤ cs.length ∧ sat l' c (cs.take o ++ xs ++ cs.drop (o + xs.length))
  | l, 0, x, l', cs, xs, h, hs, hx => by
    have h' : over l x = some l' := by cases l <;> exact h
    simpa using over_ok l x h' hs hx
  | .cons a b, o + 1, x, l', cs, xs, h, ⟨y, r, e, h1, h2⟩, hx => by
    simp only [setc, Option.map_eq_some_iff] at h
    obtain ⟨m, hm, rfl⟩ := h
    subst e
    obtain ⟨hn, hs⟩ := setc_ok b o x hm h2 hx
    refine ⟨by simp; omega, ⟨y, r.take o ++ xs ++ r.drop (o + xs.length), ?_, h1, hs⟩⟩
    simp [show o + 1 + xs.length = (o + xs.length) + 1 by omega]
theorem ofValues_ok (c : Cx) : ∀ (l : List Value), sat (ofValues l) c l
  | [] => rfl
  | x :: r => ⟨x, r, rfl, rfl, ofValues_ok c r⟩
theorem lenIs_ok {c : Cx} : ∀ (l : AV) (n : Nat) {cs : List Value}, lenIs l n = true → sat l c cs → cs.length = n
  | .nil, 0, cs, _, h => by
    have : cs = [] := h
    subst this; rfl
  | .cons a b, n + 1, cs, h, ⟨x, r, e, _, h2⟩ => by
    subst e
    simpa using lenIs_ok b n h h2
theorem one_ok {c : Cx} {v : AV} {x : Value} (h : one v = true) (hs : sat v c [x]) : x.oneCell' = true := by
  cases v with
  | v y =>
    have : x = y := by simpa [sat] using hs
    subst this
    cases x <;> first | rfl | cases h
  | fn f l =>
    obtain ⟨cs, e, _⟩ := hs
    simp at e; subst e; rfl
  | ptr i o =>
    obtain ⟨_, b, _, e⟩ := hs
    simp at e; subst e; rfl
  | rl q t l =>
    obtain ⟨A, m, e, _⟩ := hs
    simp at e; subst e; rfl
  | rc q t l =>
    obtain ⟨A, e, _⟩ := hs
    simp at e; subst e; rfl
  | sc i o n m t =>
    obtain ⟨_, b, _, e⟩ := hs
    simp at e; subst e; rfl
  | em =>
    obtain ⟨A, e⟩ := hs
    simp at e; subst e; rfl
  | ow i k n =>
    obtain ⟨_, _, e, _⟩ := hs
    simp at e; subst e; exact c.one i
  | ws i k lo n =>
    obtain ⟨_, _, A, m, A', _, _, _, e⟩ := hs
    simp at e; subst e; rfl
  | iw i y o k n hd =>
    obtain ⟨_, e, A, m, hh, _⟩ := hs
    simp at e; subst e; rw [hh]; rfl
  | mp i =>
    obtain ⟨_, _, e⟩ := hs
    simp at e; subst e; exact c.one i
  | mw i tt y n hd =>
    obtain ⟨_, e, A, m, hh, _⟩ := hs
    simp at e; subst e; rw [hh]; rfl
  | _ => cases h
theorem ones_ok {c : Cx} : ∀ (l : AV) {cs : List Value}, ones l = true → sat l c cs → ∀ x ∈ cs, x.oneCell' = true
  | .nil, cs, _, h, x, hx => by
    have : cs = [] := h
    subst this; cases hx
  | .cons a b, cs, h, ⟨y, r, e, h1, h2⟩, x, hx => by
    subst e
    simp only [ones, Bool.and_eq_true] at h
    rcases List.mem_cons.1 hx with rfl | hx
    · exact one_ok h.1 h1
    · exact ones_ok b h.2 h2 x hx
theorem cells_one {x : Value} (h : x.oneCell' = true) : x.cells.toList = [x] := by
  cases x <;> first | rfl | cases h
theorem cellsOf_ok {c : Cx} {v l : AV} {x : Value} (h : cellsOf v = some l) (hs : sat v c [x]) : sat l c x.cells.toList ∧ ∀ y ∈ x.cells.toList, y.oneCell' = true := by
  have key : ∀ y : AV, one y = true → sat y c [x] → sat (.cons y .nil) c x.cells.toList ∧ ∀ y ∈ x.cells.toList, y.oneCell' = true := by
    intro y hu hsu
    have h1 := one_ok hu hsu
    rw [cells_one h1]
    exact ⟨⟨x, [], rfl, hsu, rfl⟩, by simpa using h1⟩
  cases v with
  | agg m =>
    obtain ⟨cs, e, hm⟩ := hs
    simp at e; subst e
    simp only [cellsOf] at h
    cases ho : ones m with
    | false => simp [ho] at h
    | true =>
      simp [ho] at h; subst h
      exact ⟨hm, ones_ok m ho hm⟩
  | v y =>
    simp only [cellsOf] at h
    cases ho : one (.v y) with
    | false => simp [ho] at h
    | true =>
      simp [ho] at h; subst h
      exact key _ ho hs
  | fn f m => injection h with h; subst h; exact key _ rfl hs
  | ptr i o => injection h with h; subst h; exact key _ rfl hs
  | rl q t l => injection h with h; subst h; exact key _ rfl hs
  | rc q t l => injection h with h; subst h; exact key _ rfl hs
  | em => injection h with h; subst h; exact key _ rfl hs
  | sc i o n m t => injection h with h; subst h; exact key _ rfl hs
  | ow i k n => injection h with h; subst h; exact key _ rfl hs
  | ws i k lo n => injection h with h; subst h; exact key _ rfl hs
  | iw i y o k n hd => injection h with h; subst h; exact key _ rfl hs
  | mp i => injection h with h; subst h; exact key _ rfl hs
  | mw i tt y n hd => injection h with h; subst h; exact key _ rfl hs
  | _ => cases h
theorem ofFn_ok {c : Cx} {e : Nat → AV} : ∀ (n o : Nat) {cs : List Value}, cs.length = n → (∀ j, j < n → ∃ x, cs[j]? = some x ∧ sat (e (o + j)) c [x]) → sat (ofFn e o n) c cs
  | 0, o, cs, hl, _ => by
    have : cs = [] := List.eq_nil_of_length_eq_zero hl
    exact this
  | n + 1, o, cs, hl, h => by
    match cs, hl with
    | x :: r, hl =>
      obtain ⟨y, hy, hs⟩ := h 0 (by omega)
      have : x = y := by simpa using hy
      subst this
      refine ⟨x, r, rfl, hs, ofFn_ok n (o + 1) (by simpa using hl) fun j hj => ?_⟩
      obtain ⟨z, hz, hsz⟩ := h (j + 1) (by omega)
      exact ⟨z, by simpa using hz, by rw [show o + 1 + j = o + (j + 1) by omega]; exact hsz⟩
theorem castK_ok {α : Sort _} {P : α → Prop} {t t' : Ty} {l : List (El t)} {no : α} {K : List (El t') → α} (hno : P no) (hK : ∀ h : t = t', P (K (h ▸ l))) : P (castK t t' l no K) := by
  unfold castK
  split
  · rename_i h _
    subst h
    exact hK rfl
  · exact hno
theorem castE_ok {α : Sort _} {P : α → Prop} {t t' : Ty} {x : El t} {no : α} {K : El t' → α} (hno : P no) (hK : ∀ h : t = t', P (K (h ▸ x))) : P (castE t t' x no K) := by
  unfold castE
  split
  · rename_i h _
    subst h
    exact hK rfl
  · exact hno
theorem findM_mem {α : Type} (t : Ty) (k : El t) : ∀ (l : List (El t × α)) {v : α}, findM t k l = some v → ∃ a, (a, v) ∈ l ∧ eqE t k a = true
  | [], v, h => by cases h
  | (a, w) :: r, v, h => by
    unfold findM at h
    cases hq : eqE t k a with
    | true =>
      rw [hq, cond_true] at h
      injection h with h; subst h
      exact ⟨a, by simp, hq⟩
    | false =>
      rw [hq, cond_false] at h
      obtain ⟨b, hb, e⟩ := findM_mem t k r h
      exact ⟨b, by simp [hb], e⟩
theorem lst_in {c : Cx} {j : Nat} {ka va : Bool} {kt a : Ty} {e : TypeId} {it : Option (Nat × Option (El kt × ElV (.own a e)) × List (El kt × ElV (.own a e)))} {l : List (El kt × ElV (.own a e))}
    (h : mapAt c j ka va kt (.own a e) none it l) (x : El kt) : (findM kt x l = none ∧ lstM kt x l = (.slice none 0 0, [])) ∨ ∃ k v, (k, v) ∈ l ∧ eqE kt x k = true ∧ findM kt x l = some v ∧ lstM kt x l = v ∧ memIn c.w c.O (qb false c.b0) e a v.2 v.1 := by
  unfold lstM
  cases hf : findM kt x l with
  | none => exact .inl ⟨rfl, rfl⟩
  | some v =>
    obtain ⟨k, hk, he⟩ := findM_mem kt x l hf
    refine .inr ⟨k, v, hk, he, rfl, rfl, ?_⟩
    obtain ⟨b, es, ck, _, _, _, h4, _⟩ := h
    obtain ⟨n, hn, e1⟩ := List.getElem_of_mem hk
    have hl := entR_len h4
    obtain ⟨p, hp, _, hr⟩ := entR_at h4 n (es.toList[n]'(by omega)) (List.getElem?_eq_getElem _)
    rw [List.getElem?_eq_getElem hn, e1] at hp
    injection hp with hp
    subst hp
    exact (hr rfl).2
theorem memE_len {w : World} {O : Nat → Prop} {b : Nat} : ∀ (t : Ty) (x : El t) (vs : List Value), memE w O b t x vs → vs.length = tsz t ∧ ∀ v ∈ vs, v.oneCell' = true
  | .nil, _, vs, h => by
    have : vs = [] := h
    subst this; exact ⟨rfl, fun v hv => by cases hv⟩
  | .int k r, x, vs, ⟨vs', e, h⟩ => by
    subst e
    obtain ⟨h1, h2⟩ := memE_len r x.2 vs' h
    exact ⟨by simp [tsz, h1], fun v hv => by rcases List.mem_cons.1 hv with rfl | hv; exact rfl; exact h2 v hv⟩
  | .bool r, x, vs, ⟨vs', e, h⟩ => by
    subst e
    obtain ⟨h1, h2⟩ := memE_len r x.2 vs' h
    exact ⟨by simp [tsz, h1], fun v hv => by rcases List.mem_cons.1 hv with rfl | hv; exact rfl; exact h2 v hv⟩
  | .str r, x, vs, ⟨vs', e, h⟩ => by
    subst e
    obtain ⟨h1, h2⟩ := memE_len r x.2 vs' h
    exact ⟨by simp [tsz, h1], fun v hv => by rcases List.mem_cons.1 hv with rfl | hv; exact rfl; exact h2 v hv⟩
  | .sl a r, x, vs, ⟨A, m, vs', e, _, _, h⟩ => by
    subst e
    obtain ⟨h1, h2⟩ := memE_len r x.2 vs' h
    exact ⟨by simp [tsz, h1], fun v hv => by rcases List.mem_cons.1 hv with rfl | hv; exact rfl; exact h2 v hv⟩
theorem Keeps.q {w : World} {O : Nat → Prop} {b b' : Nat} (h : b' ≤ b) : Keeps w O b w O b' := ⟨fun _ h _ _ => h, Nat.le_refl _, fun _ _ _ _ => rfl, fun _ _ _ h' => Nat.le_trans h h'⟩
theorem memE_q {w : World} {O : Nat → Prop} {b b' : Nat} (h : b' ≤ b) {t : Ty} {x : El t} {vs : List Value} (hm : memE w O b t x vs) : memE w O b' t x vs := memE_keeps (Keeps.q h) t x vs hm
theorem memR_q {w : World} {O : Nat → Prop} {b b' : Nat} (h : b' ≤ b) {t : Ty} {A : Option Addr} {l : List (El t)} (hm : memL w O b (tsz t) (memE w O b t) A l) : memL w O b' (tsz t) (memE w O b' t) A l := memR_keeps (Keeps.q h) hm
theorem encC_ok {c : Cx} {q : Bool} : ∀ (t : Ty) (x : El t) (vs : List Value), memE c.w c.O (qb q c.b0) t x vs → sat (encC q t x) c vs
  | .nil, _, vs, h => h
  | .int k r, x, vs, ⟨vs', e, h⟩ => ⟨_, vs', e, rfl, encC_ok r x.2 vs' h⟩
  | .bool r, x, vs, ⟨vs', e, h⟩ => ⟨_, vs', e, rfl, encC_ok r x.2 vs' h⟩
  | .str r, x, vs, ⟨vs', e, h⟩ => ⟨_, vs', e, rfl, encC_ok r x.2 vs' h⟩
  | .sl a r, x, vs, ⟨A, m, vs', e, hl, hL, h⟩ => ⟨_, vs', e, ⟨A, m, rfl, hl, hL⟩, encC_ok r x.2 vs' h⟩
theorem decK_ok {α : Type} {P : α → Prop} {c : Cx} {no : α} (hno : P no) : ∀ (t : Ty) (l : AV) (vs : List Value) (K : Bool → El t → α), sat l c vs → (∀ q x, memE c.w c.O (qb q c.b0) t x vs → P (K q x)) → P (decK t l no K)
  | .nil, l, vs, K, hs, hK => by
    cases l with
    | nil => exact hK true () hs
    | _ => exact hno
  | .int k r, l, vs, K, hs, hK => by
    cases l with
    | cons h m =>
      obtain ⟨y, vs', rfl, h1, h2⟩ := hs
      cases h with
      | v z =>
        cases z with
        | int k' n =>
          simp only [decK]
          split
          · rename_i hk
            subst hk
            have hy : y = .int k' n := by simpa [sat] using h1
            exact decK_ok hno r m vs' _ h2 fun q x hx => hK q (n, x) ⟨vs', by rw [hy], hx⟩
          · exact hno
        | _ => simp only [decK]; exact hno
      | _ => simp only [decK]; exact hno
    | _ => simp only [decK]; exact hno
  | .bool r, l, vs, K, hs, hK => by
    cases l with
    | cons h m =>
      obtain ⟨y, vs', rfl, h1, h2⟩ := hs
      cases h with
      | v z =>
        cases z with
        | bool n =>
          simp only [decK]
          have hy : y = .bool n := by simpa [sat] using h1
          exact decK_ok hno r m vs' _ h2 fun q x hx => hK q (n, x) ⟨vs', by rw [hy], hx⟩
        | _ => simp only [decK]; exact hno
      | _ => simp only [decK]; exact hno
    | _ => simp only [decK]; exact hno
  | .str r, l, vs, K, hs, hK => by
    cases l with
    | cons h m =>
      obtain ⟨y, vs', rfl, h1, h2⟩ := hs
      cases h with
      | v z =>
        cases z with
        | string n =>
          simp only [decK]
          have hy : y = .string n := by simpa [sat] using h1
          exact decK_ok hno r m vs' _ h2 fun q x hx => hK q (n, x) ⟨vs', by rw [hy], hx⟩
        | _ => simp only [decK]; exact hno
      | _ => simp only [decK]; exact hno
    | _ => simp only [decK]; exact hno
  | .sl a r, l, vs, K, hs, hK => by
    cases l with
    | cons h m =>
      obtain ⟨y, vs', rfl, h1, h2⟩ := hs
      cases h with
      | rl q t l =>
        simp only [decK]
        refine castK_ok hno fun e => ?_
        subst e
        obtain ⟨A, cp, e, hm, hL⟩ := h1
        refine decK_ok hno r m vs' _ h2 fun q' x hx => hK (q && q') (l, x) ⟨A, cp, vs', by simpa using e, hm, memR_q (qb_mono (by simp; exact fun h _ => h) (Nat.le_refl _)) hL, memE_q (qb_mono (by simp) (Nat.le_refl _)) hx⟩
      | rc q t l =>
        simp only [decK]
        refine castK_ok hno fun e => ?_
        subst e
        obtain ⟨A, e, hL⟩ := h1
        refine decK_ok hno r m vs' _ h2 fun q' x hx => hK (q && q') (l, x) ⟨A, _, vs', by simpa using e, Nat.le_refl _, memR_q (qb_mono (by simp; exact fun h _ => h) (Nat.le_refl _)) hL, memE_q (qb_mono (by simp) (Nat.le_refl _)) hx⟩
      | em =>
        simp only [decK]
        obtain ⟨A, e⟩ := h1
        exact decK_ok hno r m vs' _ h2 fun q x hx => hK q ([], x) ⟨A, 0, vs', by rw [show y = .slice A 0 0 by simpa using e]; rfl, Nat.le_refl _, fun i y hy => by simp at hy, hx⟩
      | v z =>
        cases z with
        | slice A n cp =>
          cases A with
          | none =>
            simp only [decK]
            cases hn : Nat.beq n 0 with
            | false => exact hno
            | true =>
              have hn0 : n = 0 := Nat.eq_of_beq_eq_true hn
              have hy : y = .slice none n cp := by simpa [sat] using h1
              exact decK_ok hno r m vs' _ h2 fun q x hx => hK q ([], x) ⟨none, cp, vs', by rw [hy, hn0]; rfl, Nat.zero_le _, fun i y hy => by simp at hy, hx⟩
          | some ad => simp only [decK]; exact hno
        | _ => simp only [decK]; exact hno
      | _ => simp only [decK]; exact hno
    | _ => simp only [decK]; exact hno
theorem decN_ok {α : Type} {P : α → Prop} {c : Cx} {no : α} (hno : P no) (t : Ty) : ∀ (n : Nat) (l : AV) (vs : List Value) (K : Bool → List (El t) → α), sat l c vs →
    (∀ q xs, xs.length = n → n * tsz t ≤ vs.length → (∀ j y, xs[j]? = some y → memE c.w c.O (qb q c.b0) t y ((vs.drop (j * tsz t)).take (tsz t))) → P (K q xs)) → P (decN t n l no K)
  | 0, l, vs, K, hs, hK => hK true [] rfl (by simp) fun j y hy => by simp at hy
  | n + 1, l, vs, K, hs, hK => by
    unfold decN
    split
    · rename_i a b ha hb
      obtain ⟨hla, hsa⟩ := part_ok l 0 (tsz t) ha hs
      obtain ⟨hlb, hsb⟩ := part_ok l (tsz t) (n * tsz t) hb hs
      rw [List.drop_zero] at hsa
      refine decK_ok hno t a _ _ hsa fun q x hx => ?_
      refine decN_ok hno t n b _ _ hsb fun q' r hr hle hall => ?_
      refine hK (q && q') (x :: r) (by simp [hr]) (by rw [Nat.add_mul]; omega) fun j y hy => ?_
      cases j with
      | zero =>
        have : x = y := by simpa using hy
        subst this
        rw [Nat.zero_mul, List.drop_zero]
        exact memE_q (qb_mono (by simp; exact fun h _ => h) (Nat.le_refl _)) hx
      | succ j =>
        have := hall j y (by simpa using hy)
        have hj : j < n := by
          have := (List.getElem?_eq_some_iff.1 hy).1
          simp at this; omega
        have hd : ((List.take (n * tsz t) (List.drop (tsz t) vs)).drop (j * tsz t)).take (tsz t) = (vs.drop ((j + 1) * tsz t)).take (tsz t) := by
          rw [List.drop_take, List.drop_drop, List.take_take, Nat.min_eq_left]
          · rw [show tsz t + j * tsz t = (j + 1) * tsz t by rw [Nat.add_mul]; omega]
          · have : (j + 1) * tsz t ≤ n * tsz t := Nat.mul_le_mul_right _ hj
            rw [Nat.add_mul] at this; omega
        rw [hd] at this
        exact memE_q (qb_mono (by simp) (Nat.le_refl _)) this
    · exact hno
theorem getE_ok {t : Ty} {l : List (El t)} {i : Nat} (h : i < l.length) : l[i]? = some (getE t l i) := by
  unfold getE
  simp [List.getD, h]
theorem nth_len {c : Cx} : ∀ (l : AV) (i : Nat) {cs : List Value} {x : Value}, sat l c cs → (∃ n, lenIs l n = true) → cs[i]? = some x → sat (nthD l i) c [x]
  | .nil, i, cs, x, hs, _, h => by
    have : cs = [] := hs
    subst this; simp at h
  | .cons a b, 0, cs, x, ⟨y, r, e, h1, _⟩, _, h => by
    subst e
    have : y = x := by simpa using h
    subst this; exact h1
  | .cons a b, i + 1, cs, x, ⟨y, r, e, _, h2⟩, ⟨n, hn⟩, h => by
    subst e
    cases n with
    | zero => cases hn
    | succ n => exact nth_len b i h2 ⟨n, hn⟩ (by simpa using h)
  | .u, _, _, _, _, ⟨n, h⟩, _ => by cases n <;> cases h
  | .v _, _, _, _, _, ⟨n, h⟩, _ => by cases n <;> cases h
  | .agg _, _, _, _, _, ⟨n, h⟩, _ => by cases n <;> cases h
  | .tup _, _, _, _, _, ⟨n, h⟩, _ => by cases n <;> cases h
  | .fn _ _, _, _, _, _, ⟨n, h⟩, _ => by cases n <;> cases h
  | .gd _ _, _, _, _, _, ⟨n, h⟩, _ => by cases n <;> cases h
  | .ptr _ _, _, _, _, _, ⟨n, h⟩, _ => by cases n <;> cases h
  | .sc _ _ _ _ _, _, _, _, _, ⟨n, h⟩, _ => by cases n <;> cases h
  | .rl _ _ _, _, _, _, _, ⟨n, h⟩, _ => by cases n <;> cases h
  | .rc _ _ _, _, _, _, _, ⟨n, h⟩, _ => by cases n <;> cases h
  | .em, _, _, _, _, ⟨n, h⟩, _ => by cases n <;> cases h
  | .rp _ _ _, _, _, _, _, ⟨n, h⟩, _ => by cases n <;> cases h
  | .ow _ _ _, _, _, _, _, ⟨n, h⟩, _ => by cases n <;> cases h
  | .ws _ _ _ _, _, _, _, _, ⟨n, h⟩, _ => by cases n <;> cases h
  | .op _ _ _ _, _, _, _, _, ⟨n, h⟩, _ => by cases n <;> cases h
  | .iw _ _ _ _ _ _, _, _, _, _, ⟨n, h⟩, _ => by cases n <;> cases h
  | .ip _ _ _ _ _ _ _, _, _, _, _, ⟨n, h⟩, _ => by cases n <;> cases h
  | .mp _, _, _, _, _, ⟨n, h⟩, _ => by cases n <;> cases h
  | .mw _ _ _ _ _, _, _, _, _, ⟨n, h⟩, _ => by cases n <;> cases h
  | .mq _ _ _ _ _ _ _, _, _, _, _, ⟨n, h⟩, _ => by cases n <;> cases h
theorem encC_len (q : Bool) : ∀ (t : Ty) (x : El t), lenIs (encC q t x) (tsz t) = true
  | .nil, _ => rfl
  | .int k r, x => encC_len q r x.2
  | .bool r, x => encC_len q r x.2
  | .str r, x => encC_len q r x.2
  | .sl a r, x => encC_len q r x.2
end Go.Proofs.Ytdhpjpidcbplbaa.Eng

/- ENGINE 2, 3M: rows whose elements have own slices. -/
namespace Go.Proofs.Ytdhpjpidcbplbaa.Eng
open Go Go.RowKit
theorem ownM_succ {m : List (Option TypeId)} {p : Nat} : ownM m (p + 1) = ownM (tailM m) p := by
  cases m with
  | nil => rfl
  | cons e m => rfl
theorem ownM_zero {m : List (Option TypeId)} : ownM m 0 = headM m := by
  cases m with
  | nil => rfl
  | cons e m => rfl
theorem memIn_one {w : World} {O : Nat → Prop} {b : Nat} {e : TypeId} {a : Ty} {l : List (El a)} {hv : Value} (h : memIn w O b e a l hv) : ∃ A m, hv = .slice A l.length m ∧ l.length ≤ m ∧ (0 < l.length → ∃ g, A = some ⟨g, 0, none⟩) := by
  obtain ⟨h0, ⟨rfl, A, e1⟩ | ⟨g, cap, cur, e1, e2, e3, e4, _⟩⟩ := h
  · exact ⟨A, 0, e1, Nat.le_refl _, fun h => absurd h (Nat.lt_irrefl _)⟩
  · exact ⟨_, _, e1, e4, fun _ => ⟨g, rfl⟩⟩
theorem memM_len {w : World} {O : Nat → Prop} {b : Nat} {h : Nat → Value} : ∀ (t : Ty) (m : List (Option TypeId)) (o : Nat) (x : El t) (vs : List Value), memM w O b h t m o x vs → vs.length = tsz t ∧ ∀ v ∈ vs, v.oneCell' = true
  | .nil, _, _, _, vs, e => by
    have : vs = [] := e
    subst this; exact ⟨rfl, fun v hv => by cases hv⟩
  | .int k r, m, o, x, vs, ⟨vs', e, hm⟩ => by
    subst e
    obtain ⟨h1, h2⟩ := memM_len r _ _ x.2 vs' hm
    exact ⟨by simp [tsz, h1], fun v hv => by rcases List.mem_cons.1 hv with rfl | hv; exact rfl; exact h2 v hv⟩
  | .bool r, m, o, x, vs, ⟨vs', e, hm⟩ => by
    subst e
    obtain ⟨h1, h2⟩ := memM_len r _ _ x.2 vs' hm
    exact ⟨by simp [tsz, h1], fun v hv => by rcases List.mem_cons.1 hv with rfl | hv; exact rfl; exact h2 v hv⟩
  | .str r, m, o, x, vs, ⟨vs', e, hm⟩ => by
    subst e
    obtain ⟨h1, h2⟩ := memM_len r _ _ x.2 vs' hm
    exact ⟨by simp [tsz, h1], fun v hv => by rcases List.mem_cons.1 hv with rfl | hv; exact rfl; exact h2 v hv⟩
  | .sl a r, m, o, x, vs, ⟨v0, vs', e, h0, hm⟩ => by
    subst e
    obtain ⟨h1, h2⟩ := memM_len r _ _ x.2 vs' hm
    refine ⟨by simp [tsz, h1], fun v hv => ?_⟩
    rcases List.mem_cons.1 hv with rfl | hv
    · cases hh : headM m with
      | some e' =>
        rw [hh] at h0
        obtain ⟨A, c, hc, _⟩ := memIn_one h0.2
        rw [h0.1, hc]; rfl
      | none =>
        rw [hh] at h0
        obtain ⟨A, c, hc, _⟩ := h0
        rw [hc]; rfl
    · exact h2 v hv
theorem memM_congr {w : World} {O : Nat → Prop} {b : Nat} {h h' : Nat → Value} : ∀ (t : Ty) (m : List (Option TypeId)) (o : Nat) (x : El t) (vs : List Value), (∀ p, (ownM m p).isSome = true → h' (o + p) = h (o + p)) → memM w O b h t m o x vs → memM w O b h' t m o x vs
  | .nil, _, _, _, _, _, e => e
  | .int k r, m, o, x, vs, hc, ⟨vs', e, hm⟩ => ⟨vs', e, memM_congr r _ _ x.2 vs' (fun p hp => by have := hc (p + 1) (by rw [ownM_succ]; exact hp); rw [show o + 1 + p = o + (p + 1) by omega]; exact this) hm⟩
  | .bool r, m, o, x, vs, hc, ⟨vs', e, hm⟩ => ⟨vs', e, memM_congr r _ _ x.2 vs' (fun p hp => by have := hc (p + 1) (by rw [ownM_succ]; exact hp); rw [show o + 1 + p = o + (p + 1) by omega]; exact this) hm⟩
  | .str r, m, o, x, vs, hc, ⟨vs', e, hm⟩ => ⟨vs', e, memM_congr r _ _ x.2 vs' (fun p hp => by have := hc (p + 1) (by rw [ownM_succ]; exact hp); rw [show o + 1 + p = o + (p + 1) by omega]; exact this) hm⟩
  | .sl a r, m, o, x, vs, hc, ⟨v0, vs', e, h0, hm⟩ => by
    refine ⟨v0, vs', e, ?_, memM_congr r _ _ x.2 vs' (fun p hp => by have := hc (p + 1) (by rw [ownM_succ]; exact hp); rw [show o + 1 + p = o + (p + 1) by omega]; exact this) hm⟩
    cases hh : headM m with
    | some e' =>
      rw [hh] at h0
      have := hc 0 (by rw [ownM_zero, hh]; rfl)
      rw [Nat.add_zero] at this
      exact ⟨by rw [this]; exact h0.1, by rw [this]; exact h0.2⟩
    | none => rw [hh] at h0; exact h0
theorem encM_ok {c : Cx} {i x : Nat} (hx : i < c.n ∧ x < c.len i ∧ ∃ b, (c.val i).ownBlock = some b) {h : Nat → Value} {q : Bool} : ∀ (t : Ty) (m : List (Option TypeId)) (o : Nat) (y : El t) (vs : List Value), memM c.w c.O (qb q c.b0) h t m o y vs → sat (encM i x h q t m o y) c vs
  | .nil, _, _, _, vs, e => e
  | .int k r, m, o, y, vs, ⟨vs', e, hm⟩ => ⟨_, vs', e, rfl, encM_ok hx r _ _ y.2 vs' hm⟩
  | .bool r, m, o, y, vs, ⟨vs', e, hm⟩ => ⟨_, vs', e, rfl, encM_ok hx r _ _ y.2 vs' hm⟩
  | .str r, m, o, y, vs, ⟨vs', e, hm⟩ => ⟨_, vs', e, rfl, encM_ok hx r _ _ y.2 vs' hm⟩
  | .sl a r, m, o, y, vs, ⟨v0, vs', e, h0, hm⟩ => by
    refine ⟨v0, vs', e, ?_, encM_ok hx r _ _ y.2 vs' hm⟩
    cases hh : headM m with
    | some e' =>
      rw [hh] at h0
      exact ⟨hx, by rw [h0.1], memIn_one h0.2⟩
    | none =>
      rw [hh] at h0
      obtain ⟨A, cp, e1, e2, e3⟩ := h0
      exact ⟨A, cp, by rw [e1], e2, e3⟩
def InAt (w : World) (O : Nat → Prop) (b : Nat) (t : Ty) (p : Nat) (y : El t) (a : Ty) (L : List (El a)) : Prop :=
  ∀ (h : Nat → Value) (m : List (Option TypeId)) (o : Nat) (vs : List Value) (e : TypeId), ownM m p = some e → memM w O b h t m o y vs → vs[p]? = some (h (o + p)) ∧ memIn w O b e a L (h (o + p))
theorem innerK_ok {α : Type} {PP : α → Prop} {no : α} (hno : PP no) {w : World} {O : Nat → Prop} {b : Nat} : ∀ (t : Ty) (p : Nat) (y : El t) (K : (a : Ty) → List (El a) → α), (∀ a L, InAt w O b t p y a L → PP (K a L)) → PP (innerK no t p y K)
  | .nil, p, y, K, hK => by cases p <;> exact hno
  | .int k r, 0, y, K, hK => hno
  | .bool r, 0, y, K, hK => hno
  | .str r, 0, y, K, hK => hno
  | .int k r, p + 1, y, K, hK => innerK_ok hno r p y.2 K fun a L hi => hK a L fun h m o vs e hm hM => by
      obtain ⟨vs', e1, hM'⟩ := hM
      rw [ownM_succ] at hm
      obtain ⟨h1, h2⟩ := hi h (tailM m) (o + 1) vs' e hm hM'
      rw [show o + 1 + p = o + (p + 1) by omega] at h1 h2
      exact ⟨by rw [e1]; simpa using h1, h2⟩
  | .bool r, p + 1, y, K, hK => innerK_ok hno r p y.2 K fun a L hi => hK a L fun h m o vs e hm hM => by
      obtain ⟨vs', e1, hM'⟩ := hM
      rw [ownM_succ] at hm
      obtain ⟨h1, h2⟩ := hi h (tailM m) (o + 1) vs' e hm hM'
      rw [show o + 1 + p = o + (p + 1) by omega] at h1 h2
      exact ⟨by rw [e1]; simpa using h1, h2⟩
  | .str r, p + 1, y, K, hK => innerK_ok hno r p y.2 K fun a L hi => hK a L fun h m o vs e hm hM => by
      obtain ⟨vs', e1, hM'⟩ := hM
      rw [ownM_succ] at hm
      obtain ⟨h1, h2⟩ := hi h (tailM m) (o + 1) vs' e hm hM'
      rw [show o + 1 + p = o + (p + 1) by omega] at h1 h2
      exact ⟨by rw [e1]; simpa using h1, h2⟩
  | .sl a' r, 0, y, K, hK => hK a' y.1 fun h m o vs e hm hM => by
      obtain ⟨v, vs', e1, h0, hM'⟩ := hM
      rw [ownM_zero] at hm
      rw [hm] at h0
      exact ⟨by rw [e1, h0.1]; rfl, h0.2⟩
  | .sl a' r, p + 1, y, K, hK => innerK_ok hno r p y.2 K fun a L hi => hK a L fun h m o vs e hm hM => by
      obtain ⟨v, vs', e1, h0, hM'⟩ := hM
      rw [ownM_succ] at hm
      obtain ⟨h1, h2⟩ := hi h (tailM m) (o + 1) vs' e hm hM'
      rw [show o + 1 + p = o + (p + 1) by omega] at h1 h2
      exact ⟨by rw [e1]; simpa using h1, h2⟩
def UpdAt (t : Ty) (p : Nat) (y : El t) (a : Ty) (L : List (El a)) (y' : El t) : Prop :=
  p < tsz t ∧ ∀ (w w' : World) (O O' : Nat → Prop) (b b' : Nat) (h h' : Nat → Value) (m : List (Option TypeId)) (o : Nat) (vs : List Value) (e : TypeId), ownM m p = some e → memM w O b h t m o y vs → Keeps w O b w' O' b' →
    (∀ p', p' ≠ p → (ownM m p').isSome = true → ∀ g, blkOf (h (o + p')) = some g → w'.heap[g]? = w.heap[g]?) → (∀ p', p' ≠ p → h' (o + p') = h (o + p')) → memIn w' O' b' e a L (h' (o + p)) → memM w' O' b' h' t m o y' (vs.set p (h' (o + p)))
theorem updS_ok {α : Type} {PP : α → Prop} {no : α} (hno : PP no) : ∀ (t : Ty) (p : Nat) (y : El t) (a : Ty) (L : List (El a)) (K : El t → α), (∀ y', UpdAt t p y a L y' → PP (K y')) → PP (updS no t p y a L K)
  | .nil, p, y, a, L, K, hK => by cases p <;> exact hno
  | .int k r, 0, y, a, L, K, hK => hno
  | .bool r, 0, y, a, L, K, hK => hno
  | .str r, 0, y, a, L, K, hK => hno
  | .int k r, p + 1, y, a, L, K, hK => updS_ok hno r p y.2 a L _ fun y' hu => hK (y.1, y') ⟨Nat.succ_lt_succ hu.1, fun w w' O O' b b' h h' m o vs e hm ⟨vs', e1, hM⟩ kp hw hh hi => by
      rw [ownM_succ] at hm
      have := hu.2 w w' O O' b b' h h' (tailM m) (o + 1) vs' e hm hM kp (fun p' hp' ho g hg => hw (p' + 1) (by omega) (by rw [ownM_succ]; exact ho) g (by rw [show o + (p' + 1) = o + 1 + p' by omega]; exact hg)) (fun p' hp' => by rw [show o + 1 + p' = o + (p' + 1) by omega]; exact hh _ (by omega)) (by rw [show o + 1 + p = o + (p + 1) by omega]; exact hi)
      rw [show o + 1 + p = o + (p + 1) by omega] at this
      exact ⟨_, by rw [e1]; rfl, this⟩⟩
  | .bool r, p + 1, y, a, L, K, hK => updS_ok hno r p y.2 a L _ fun y' hu => hK (y.1, y') ⟨Nat.succ_lt_succ hu.1, fun w w' O O' b b' h h' m o vs e hm ⟨vs', e1, hM⟩ kp hw hh hi => by
      rw [ownM_succ] at hm
      have := hu.2 w w' O O' b b' h h' (tailM m) (o + 1) vs' e hm hM kp (fun p' hp' ho g hg => hw (p' + 1) (by omega) (by rw [ownM_succ]; exact ho) g (by rw [show o + (p' + 1) = o + 1 + p' by omega]; exact hg)) (fun p' hp' => by rw [show o + 1 + p' = o + (p' + 1) by omega]; exact hh _ (by omega)) (by rw [show o + 1 + p = o + (p + 1) by omega]; exact hi)
      rw [show o + 1 + p = o + (p + 1) by omega] at this
      exact ⟨_, by rw [e1]; rfl, this⟩⟩
  | .str r, p + 1, y, a, L, K, hK => updS_ok hno r p y.2 a L _ fun y' hu => hK (y.1, y') ⟨Nat.succ_lt_succ hu.1, fun w w' O O' b b' h h' m o vs e hm ⟨vs', e1, hM⟩ kp hw hh hi => by
      rw [ownM_succ] at hm
      have := hu.2 w w' O O' b b' h h' (tailM m) (o + 1) vs' e hm hM kp (fun p' hp' ho g hg => hw (p' + 1) (by omega) (by rw [ownM_succ]; exact ho) g (by rw [show o + (p' + 1) = o + 1 + p' by omega]; exact hg)) (fun p' hp' => by rw [show o + 1 + p' = o + (p' + 1) by omega]; exact hh _ (by omega)) (by rw [show o + 1 + p = o + (p + 1) by omega]; exact hi)
      rw [show o + 1 + p = o + (p + 1) by omega] at this
      exact ⟨_, by rw [e1]; rfl, this⟩⟩
  | .sl a' r, 0, y, a, L, K, hK => by
      unfold updS
      refine castK_ok hno fun e => ?_
      subst e
      refine hK (L, y.2) ⟨Nat.succ_pos _, fun w w' O O' b b' h h' m o vs e hm ⟨v, vs', e1, h0, hM⟩ kp hw hh hi => ?_⟩
      refine ⟨h' (o + 0), vs', by rw [e1]; rfl, ?_, memM_congr r _ _ y.2 vs' (fun p' hp' => by rw [show o + 1 + p' = o + (p' + 1) by omega]; exact hh _ (by omega)) (memM_keeps kp r _ _ y.2 vs' (fun p' ho g hg => hw (p' + 1) (by omega) (by rw [ownM_succ]; exact ho) g (by rw [show o + (p' + 1) = o + 1 + p' by omega]; exact hg)) hM)⟩
      rw [ownM_zero] at hm
      rw [hm]
      exact ⟨rfl, hi⟩
  | .sl a' r, p + 1, y, a, L, K, hK => updS_ok hno r p y.2 a L _ fun y' hu => hK (y.1, y') ⟨Nat.succ_lt_succ hu.1, fun w w' O O' b b' h h' m o vs e hm ⟨v, vs', e1, h0, hM⟩ kp hw hh hi => by
      rw [ownM_succ] at hm
      have := hu.2 w w' O O' b b' h h' (tailM m) (o + 1) vs' e hm hM kp (fun p' hp' ho g hg => hw (p' + 1) (by omega) (by rw [ownM_succ]; exact ho) g (by rw [show o + (p' + 1) = o + 1 + p' by omega]; exact hg)) (fun p' hp' => by rw [show o + 1 + p' = o + (p' + 1) by omega]; exact hh _ (by omega)) (by rw [show o + 1 + p = o + (p + 1) by omega]; exact hi)
      rw [show o + 1 + p = o + (p + 1) by omega] at this
      refine ⟨v, _, by rw [e1]; rfl, ?_, this⟩
      cases hd : headM m with
      | some e' =>
        rw [hd] at h0
        have h1 := hh 0 (by omega)
        rw [Nat.add_zero] at h1
        exact ⟨by rw [h1]; exact h0.1, by rw [h1]; exact memIn_keeps kp (fun g hg => hw 0 (by omega) (by rw [ownM_zero, hd]; rfl) g (by rw [Nat.add_zero]; exact hg)) h0.2⟩
      | none =>
        rw [hd] at h0
        obtain ⟨A, c, h2, h3, h4⟩ := h0
        exact ⟨A, c, h2, h3, memR_keeps kp h4⟩⟩
theorem memIn_rl {w w' : World} {O O' : Nat → Prop} {b b' : Nat} {e : TypeId} {a : Ty} {l : List (El a)} {hv : Value} (h : memIn w O b e a l hv) (k : Keeps w O b w' O' b') (hg : ∀ g, blkOf hv = some g → ¬ O' g ∧ g < w'.heap.size ∧ b' ≤ g ∧ w'.heap[g]? = w.heap[g]?) :
    ∃ A c, hv = .slice A l.length c ∧ l.length ≤ c ∧ memL w' O' b' (tsz a) (memE w' O' b' a) A l := by
  obtain ⟨h0, ⟨rfl, A, e1⟩ | ⟨g, cap, cur, e1, e2, e3, e4, e5, e6, e7⟩⟩ := h
  · exact ⟨A, 0, e1, Nat.le_refl _, fun i y hy => by simp at hy⟩
  · obtain ⟨q1, q2, q3, q4⟩ := hg g (by
      rw [e1]
      cases cap with
      | zero => omega
      | succ n => rfl)
    refine ⟨_, _, e1, e4, fun i y hy => ⟨⟨g, 0, none⟩, rfl, rfl, q1, q2, q3, (cur.toList.drop (i * tsz a)).take (tsz a), ?_, ?_, memE_keeps k a y _ (e7 i y hy)⟩⟩
    · have hi : i < l.length := (List.getElem?_eq_some_iff.1 hy).1
      have h1 : (i + 1) * tsz a ≤ cap * tsz a := Nat.mul_le_mul_right _ (by omega)
      rw [Nat.add_mul] at h1
      simp [e6]; omega
    · intro p v hp
      rw [List.getElem?_take] at hp
      split at hp
      · rw [Nat.zero_add, (e3.same q4).cell]
        simpa [List.getElem?_drop] using hp
      · cases hp
theorem memM_rl {w w' : World} {O O' : Nat → Prop} {b b' : Nat} {h : Nat → Value} (k : Keeps w O b w' O' b') : ∀ (t : Ty) (m : List (Option TypeId)) (o : Nat) (x : El t) (vs : List Value), (∀ p, (ownM m p).isSome = true → ∀ g, blkOf (h (o + p)) = some g → ¬ O' g ∧ g < w'.heap.size ∧ b' ≤ g ∧ w'.heap[g]? = w.heap[g]?) → memM w O b h t m o x vs → memE w' O' b' t x vs
  | .nil, _, _, _, _, _, e => e
  | .int kk r, m, o, x, vs, hg, ⟨vs', e, hm⟩ => ⟨vs', e, memM_rl k r _ _ x.2 vs' (fun p hp g h => hg (p + 1) (by rw [ownM_succ]; exact hp) g (by rw [show o + (p + 1) = o + 1 + p by omega]; exact h)) hm⟩
  | .bool r, m, o, x, vs, hg, ⟨vs', e, hm⟩ => ⟨vs', e, memM_rl k r _ _ x.2 vs' (fun p hp g h => hg (p + 1) (by rw [ownM_succ]; exact hp) g (by rw [show o + (p + 1) = o + 1 + p by omega]; exact h)) hm⟩
  | .str r, m, o, x, vs, hg, ⟨vs', e, hm⟩ => ⟨vs', e, memM_rl k r _ _ x.2 vs' (fun p hp g h => hg (p + 1) (by rw [ownM_succ]; exact hp) g (by rw [show o + (p + 1) = o + 1 + p by omega]; exact h)) hm⟩
  | .sl a r, m, o, x, vs, hg, ⟨v, vs', e, h0, hm⟩ => by
    have tail := memM_rl k r _ _ x.2 vs' (fun p hp g h => hg (p + 1) (by rw [ownM_succ]; exact hp) g (by rw [show o + (p + 1) = o + 1 + p by omega]; exact h)) hm
    cases hd : headM m with
    | some e' =>
      rw [hd] at h0
      obtain ⟨A, c, h1, h2, h3⟩ := memIn_rl h0.2 k (fun g hgg => hg 0 (by rw [ownM_zero, hd]; rfl) g (by rw [Nat.add_zero]; exact hgg))
      exact ⟨A, c, vs', by rw [e, h0.1, h1], h2, h3, tail⟩
    | none =>
      rw [hd] at h0
      obtain ⟨A, c, h1, h2, h3⟩ := h0
      exact ⟨A, c, vs', by rw [e, h1], h2, memR_keeps k h3, tail⟩
theorem mt_rl {c c' : Cx} {j : Nat} {q q' : Bool} {H : Nat → Nat → Value} {t : Ty} {m : List (Option TypeId)} {e : TypeId} {l : List (El t)} (h : mtAt c j q H t m e l) (hq' : q' = true → q = true) (kb : ∀ b, c.key j b → b < c.w.heap.size) (hw : c'.w = c.w) (hb : qb q' c'.b0 ≤ qb q c.b0) (hb' : q' = true → c'.b0 ≤ c.b0) (hO : ∀ b, ¬ c.O b → ¬ c'.O b) (hk : ∀ b, c.key j b → ¬ c'.O b) : sat (.rl q' t l) c' [c.val j] := by
  obtain ⟨h0, h1, hq, h3⟩ := h
  have kp : Keeps c.w c.O (qb q c.b0) c'.w c'.O (qb q' c'.b0) := ⟨fun k h _ _ => hO k h, by rw [hw]; exact Nat.le_refl _, fun _ _ _ _ => by rw [hw], fun k _ _ h' => Nat.le_trans hb h'⟩
  have low : ∀ b, c.key j b → qb q' c'.b0 ≤ b := fun b hb2 => by
    cases q' with
    | false => exact Nat.zero_le _
    | true => exact Nat.le_trans (qb_le true c'.b0) (Nat.le_trans (hb' rfl) (hq (hq' rfl) b hb2))
  rcases h3 with ⟨e1, A, e2, e3⟩ | ⟨g, cap, cur, e1, e2, e3, e4, e5, e6, e7, e8, e9⟩
  · subst e1
    exact ⟨A, 0, by rw [e2]; rfl, Nat.zero_le _, fun i y hy => by simp at hy⟩
  · refine ⟨some ⟨g, 0, none⟩, cap, by rw [e1], e3, fun i y hy => ⟨⟨g, 0, none⟩, rfl, rfl, hk g ((e6 g).2 (.inl rfl)), by rw [hw]; exact kb g ((e6 g).2 (.inl rfl)), low g ((e6 g).2 (.inl rfl)), (cur.toList.drop (i * tsz t)).take (tsz t), ?_, ?_, memM_rl kp t m 0 y _ (fun p hp g' hg' => ?_) (e9 i y hy)⟩⟩
    · have hi : i < l.length := (List.getElem?_eq_some_iff.1 hy).1
      have h1 : (i + 1) * tsz t ≤ cap * tsz t := Nat.mul_le_mul_right _ (by omega)
      rw [Nat.add_mul] at h1
      simp [e5]; omega
    · intro p v hp
      rw [hw]
      rw [List.getElem?_take] at hp
      split at hp
      · rw [Nat.zero_add, e2.cell]
        simpa [List.getElem?_drop] using hp
      · cases hp
    · rw [Nat.zero_add] at hg'
      have hkey : c.key j g' := (e6 g').2 (.inr ⟨i, p, (List.getElem?_eq_some_iff.1 hy).1, hp, hg'⟩)
      exact ⟨hk g' hkey, by rw [hw]; exact kb g' hkey, low g' hkey, by rw [hw]⟩
theorem decK_any {α : Type} {PP : α → Prop} {no : α} (hno : PP no) : ∀ (t : Ty) (l : AV) (K : Bool → El t → α), (∀ q x, PP (K q x)) → PP (decK t l no K)
  | .nil, l, K, h => by cases l <;> first | exact h _ _ | exact hno
  | .int k r, l, K, h => by
    cases l with
    | cons a m =>
      cases a with
      | v z =>
        cases z with
        | int k' n =>
          simp only [decK]
          split
          · exact decK_any hno r m _ fun q x => h q _
          · exact hno
        | _ => exact hno
      | _ => exact hno
    | _ => exact hno
  | .bool r, l, K, h => by
    cases l with
    | cons a m =>
      cases a with
      | v z =>
        cases z with
        | bool n => exact decK_any hno r m _ fun q x => h q _
        | _ => exact hno
      | _ => exact hno
    | _ => exact hno
  | .str r, l, K, h => by
    cases l with
    | cons a m =>
      cases a with
      | v z =>
        cases z with
        | string n => exact decK_any hno r m _ fun q x => h q _
        | _ => exact hno
      | _ => exact hno
    | _ => exact hno
  | .sl a r, l, K, h => by
    cases l with
    | cons b m =>
      cases b with
      | rl q t l => simp only [decK]; exact castK_ok hno fun e => decK_any hno r m _ fun q' x => h _ _
      | rc q t l => simp only [decK]; exact castK_ok hno fun e => decK_any hno r m _ fun q' x => h _ _
      | em => exact decK_any hno r m _ fun q x => h q _
      | v z =>
        cases z with
        | slice A n cp =>
          cases A with
          | none =>
            simp only [decK]
            cases Nat.beq n 0 with
            | false => exact hno
            | true => exact decK_any hno r m _ fun q x => h q _
          | some ad => exact hno
        | _ => exact hno
      | _ => exact hno
    | _ => exact hno
theorem mtAt_congr {c c' : Cx} {i i' : Nat} {q : Bool} {H : Nat → Nat → Value} {t : Ty} {m : List (Option TypeId)} {e : TypeId} {l : List (El t)} (hw : c'.w = c.w) (hO : c'.O = c.O) (hb : c'.b0 = c.b0) (hv : c'.val i' = c.val i) (hl : c'.len i' = c.len i) (hk : c'.key i' = c.key i) (h : mtAt c i q H t m e l) : mtAt c' i' q H t m e l := by
  unfold mtAt at *
  rw [hw, hO, hb, hv, hl, hk]
  exact h
theorem mtAt_weak {c : Cx} {i : Nat} {q q' : Bool} {H : Nat → Nat → Value} {t : Ty} {m : List (Option TypeId)} {e : TypeId} {l : List (El t)} (hq : q' = true → q = true) (h : mtAt c i q H t m e l) : mtAt c i q' H t m e l := by
  obtain ⟨h0, h1, h2, h3⟩ := h
  refine ⟨h0, h1, fun h g hg => h2 (hq h) g hg, ?_⟩
  rcases h3 with h3 | ⟨g, cap, cur, e1, e2, e3, e4, e5, e6, e7, e8, e9⟩
  · exact .inl h3
  · exact .inr ⟨g, cap, cur, e1, e2, e3, e4, e5, e6, e7, e8, fun j y hj => memM_keeps (Keeps.q (qb_mono hq (Nat.le_refl _))) t m 0 y _ (fun _ _ _ _ => rfl) (e9 j y hj)⟩
end Go.Proofs.Ytdhpjpidcbplbaa.Eng
