/- ENGINE, 3: each operation over abstract values is what the model's is. -/
import Derived.Test.YthlkhjfilfdpiaaE2
import Derived.Test.YthlkhjfilfdpiaaEQ
import Derived.Deep.MidRow
import Derived.Laws.CopyRow
namespace Go.Proofs.Ythlkhjfilfdpiaa.Eng
set_option linter.unusedVariables false
set_option linter.unusedSimpArgs false
open Go Go.RowKit

structure TIok (P : Program) (t : TypeId) (i : TI) : Prop where
  sz : (P.info? t).map (·.size) = some i.sz
  ze : ∀ z, i.ze = some z → (P.info? t).map (·.zero) = some (some z)
  ag : (P.underlying t).map TypeDesc.isRow = some i.ag
  st : i.kd = 1 → ∃ fs : Array Field, P.underlying t = some (.struct fs) ∧ fs.toList.map (fun f => (f.offset, f.type)) = i.fl ∧ fs.toList.mapM (fun f => (P.info? f.type).map fun j => (f.offset, j.size)) = some i.pl
  ar : i.kd = 2 → P.underlying t = some (.array i.ar i.el)
  sl : i.kd = 3 → P.underlying t = some (.slice i.el)
  tx : i.kd = 5 → P.underlying t = some .string
  eq : ∀ ks, i.eq = some ks → P.eqGuardType P.depth t = false ∧ flatD P 100 t = some ks
  ik : ∀ k, i.ik = some k → P.underlying t = some (.int k)

/-! ### Lists of cells -/
theorem nth_ok {c : Cx} : ∀ (l : AV) (i : Nat) {v : AV} {cs : List Value}, nth l i = some v → sat l c cs → ∃ x, cs[i]? = some x ∧ sat v c [x]
  | .cons a b, 0, v, cs, h, ⟨x, r, e, h1, _⟩ => by
    injection h with h; subst h e
    exact ⟨x, rfl, h1⟩
  | .cons a b, i + 1, v, cs, h, ⟨x, r, e, _, h2⟩ => by
    subst e
    obtain ⟨y, hy, hs⟩ := nth_ok b i h h2
    exact ⟨y, by simpa using hy, hs⟩

theorem tk_ok {c : Cx} : ∀ (l : AV) (n : Nat) {p : AV} {cs : List Value}, tk l n = some p → sat l c cs → n ≤ cs.length ∧ sat p c (cs.take n)
  | l, 0, p, cs, h, _ => by
    have : p = .nil := by cases l <;> (injection h with h; exact h.symm)
    subst this
    exact ⟨Nat.zero_le _, by simp [sat]⟩
  | .cons a b, n + 1, p, cs, h, ⟨x, r, e, h1, h2⟩ => by
    simp only [tk, Option.map_eq_some_iff] at h
    obtain ⟨q, hq, rfl⟩ := h
    subst e
    obtain ⟨hn, hs⟩ := tk_ok b n hq h2
    exact ⟨by simpa using hn, ⟨x, r.take n, by simp, h1, hs⟩⟩

theorem part_ok {c : Cx} : ∀ (l : AV) (o n : Nat) {p : AV} {cs : List Value}, part l o n = some p → sat l c cs → o + n ≤ cs.length ∧ sat p c ((cs.drop o).take n)
  | l, 0, n, p, cs, h, hs => by
    have h' : tk l n = some p := by cases l <;> exact h
    simpa using tk_ok l n h' hs
  | .cons a b, o + 1, n, p, cs, h, ⟨x, r, e, _, h2⟩ => by
    subst e
    have := part_ok b o n h h2
    exact ⟨by simp; omega, by simpa using this.2⟩

theorem over_ok {c : Cx} : ∀ (l x : AV) {l' : AV} {cs xs : List Value}, over l x = some l' → sat l c cs → sat x c xs → xs.length ≤ cs.length ∧ sat l' c (xs ++ cs.drop xs.length)
  | l, .nil, l', cs, xs, h, hs, hx => by
    have h' : l = l' := by cases l <;> (injection h)
    have hx' : xs = [] := hx
    subst h' hx'
    exact ⟨Nat.zero_le _, by simpa using hs⟩
  | .cons a b, x, l', cs, xs, h, ⟨x0, q, e, hx0, h2⟩, hx => by
    cases x with
    | nil =>
      injection h with h
      have hx' : xs = [] := hx
      subst h hx' e
      exact ⟨Nat.zero_le _, by simpa using ⟨x0, q, rfl, hx0, h2⟩⟩
    | cons y0 r =>
      obtain ⟨y, z, ey, hy1, hy2⟩ := hx
      simp only [over, Option.map_eq_some_iff] at h
      obtain ⟨m, hm, rfl⟩ := h
      subst e ey
      obtain ⟨hn, hs⟩ := over_ok b r hm h2 hy2
      exact ⟨by simpa using hn, ⟨y, z ++ q.drop z.length, by simp, hy1, hs⟩⟩
    | _ => cases h

theorem setc_ok {c : Cx} : ∀ (l : AV) (o : Nat) (x : AV) {l' : AV} {cs xs : List Value}, setc l o x = some l' → sat l c cs → sat x c xs →
    o + xs.length ≤ cs.length ∧ sat l' c (cs.take o ++ xs ++ cs.drop (o + xs.length))
  | l, 0, x, l', cs, xs, h, hs, hx => by
    have h' : over l x = some l' := by cases l <;> exact h
    simpa using over_ok l x h' hs hx
  | .cons a b, o + 1, x, l', cs, xs, h, ⟨y, r, e, h1, h2⟩, hx => by
    simp only [setc, Option.map_eq_some_iff] at h
    obtain ⟨m, hm, rfl⟩ := h
    subst e
    obtain ⟨hn, hs⟩ := setc_ok b o x hm h2 hx
    refine ⟨by simp; omega, ⟨y, r.take o ++ xs ++ r.drop (o + xs.length), ?_, h1, hs⟩⟩
    simp [show o + 1 + xs.length = (o + xs.length) + 1 by omega]

theorem ofValues_ok (c : Cx) : ∀ (l : List Value), sat (ofValues l) c l
  | [] => rfl
  | x :: r => ⟨x, r, rfl, rfl, ofValues_ok c r⟩

theorem lenIs_ok {c : Cx} : ∀ (l : AV) (n : Nat) {cs : List Value}, lenIs l n = true → sat l c cs → cs.length = n
  | .nil, 0, cs, _, h => by
    have : cs = [] := h
    subst this; rfl
  | .cons a b, n + 1, cs, h, ⟨x, r, e, _, h2⟩ => by
    subst e
    simpa using lenIs_ok b n h h2

theorem one_ok {c : Cx} {v : AV} {x : Value} (h : one v = true) (hs : sat v c [x]) : x.oneCell' = true := by
  cases v with
  | v y =>
    have : x = y := by simpa [sat] using hs
    subst this
    cases x <;> first | rfl | cases h
  | fn f l =>
    obtain ⟨cs, e, _⟩ := hs
    simp at e; subst e; rfl
  | ptr i o =>
    obtain ⟨_, b, _, e⟩ := hs
    simp at e; subst e; rfl
  | rd k n g =>
    obtain ⟨A, m, e, _⟩ := hs
    simp at e; subst e; rfl
  | sc i o n m =>
    obtain ⟨_, b, _, e⟩ := hs
    simp at e; subst e; rfl
  | ow i =>
    obtain ⟨_, e⟩ := hs
    simp at e; subst e; exact c.one i
  | _ => cases h

theorem ones_ok {c : Cx} : ∀ (l : AV) {cs : List Value}, ones l = true → sat l c cs → ∀ x ∈ cs, x.oneCell' = true
  | .nil, cs, _, h, x, hx => by
    have : cs = [] := h
    subst this; cases hx
  | .cons a b, cs, h, ⟨y, r, e, h1, h2⟩, x, hx => by
    subst e
    simp only [ones, Bool.and_eq_true] at h
    rcases List.mem_cons.1 hx with rfl | hx
    · exact one_ok h.1 h1
    · exact ones_ok b h.2 h2 x hx

theorem cells_one {x : Value} (h : x.oneCell' = true) : x.cells.toList = [x] := by
  cases x <;> first | rfl | cases h

theorem cellsOf_ok {c : Cx} {v l : AV} {x : Value} (h : cellsOf v = some l) (hs : sat v c [x]) : sat l c x.cells.toList ∧ ∀ y ∈ x.cells.toList, y.oneCell' = true := by
  have key : ∀ y : AV, one y = true → sat y c [x] → sat (.cons y .nil) c x.cells.toList ∧ ∀ y ∈ x.cells.toList, y.oneCell' = true := by
    intro y hu hsu
    have h1 := one_ok hu hsu
    rw [cells_one h1]
    exact ⟨⟨x, [], rfl, hsu, rfl⟩, by simpa using h1⟩
  cases v with
  | agg m =>
    obtain ⟨cs, e, hm⟩ := hs
    simp at e; subst e
    simp only [cellsOf] at h
    cases ho : ones m with
    | false => simp [ho] at h
    | true =>
      simp [ho] at h; subst h
      exact ⟨hm, ones_ok m ho hm⟩
  | v y =>
    simp only [cellsOf] at h
    cases ho : one (.v y) with
    | false => simp [ho] at h
    | true =>
      simp [ho] at h; subst h
      exact key _ ho hs
  | fn f m => injection h with h; subst h; exact key _ rfl hs
  | ptr i o => injection h with h; subst h; exact key _ rfl hs
  | rd k n g => injection h with h; subst h; exact key _ rfl hs
  | sc i o n m => injection h with h; subst h; exact key _ rfl hs
  | ow i => injection h with h; subst h; exact key _ rfl hs
  | _ => cases h

theorem ofFn_ok {c : Cx} {e : Nat → AV} : ∀ (n o : Nat) {cs : List Value}, cs.length = n → (∀ j, j < n → ∃ x, cs[j]? = some x ∧ sat (e (o + j)) c [x]) → sat (ofFn e o n) c cs
  | 0, o, cs, hl, _ => by
    have : cs = [] := List.eq_nil_of_length_eq_zero hl
    exact this
  | n + 1, o, cs, hl, h => by
    match cs, hl with
    | x :: r, hl =>
      obtain ⟨y, hy, hs⟩ := h 0 (by omega)
      have : x = y := by simpa using hy
      subst this
      refine ⟨x, r, rfl, hs, ofFn_ok n (o + 1) (by simpa using hl) fun j hj => ?_⟩
      obtain ⟨z, hz, hsz⟩ := h (j + 1) (by omega)
      exact ⟨z, by simpa using hz, by rw [show o + 1 + j = o + (j + 1) by omega]; exact hsz⟩

end Go.Proofs.Ythlkhjfilfdpiaa.Eng
