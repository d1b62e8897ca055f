/- ENGINE 2, 3: each operation over abstract values is what the model's is. -/
import Derived.Test.YthlkhjfilfdpiaaF2B
import Derived.Test.YthlkhjfilfdpiaaEQ
import Derived.Deep.MidRow
import Derived.Laws.CopyRow
namespace Go.Proofs.Ythlkhjfilfdpiaa.Eng
set_option linter.unusedVariables false
set_option linter.unusedSimpArgs false
open Go Go.RowKit

structure TIok (P : Program) (t : TypeId) (i : TI) : Prop where
  sz : (P.info? t).map (·.size) = some i.sz
  ze : ∀ z, i.ze = some z → (P.info? t).map (·.zero) = some (some z)
  ag : (P.underlying t).map TypeDesc.isRow = some i.ag
  st : i.kd = 1 → ∃ fs : Array Field, P.underlying t = some (.struct fs) ∧ fs.toList.map (fun f => (f.offset, f.type)) = i.fl ∧ fs.toList.mapM (fun f => (P.info? f.type).map fun j => (f.offset, j.size)) = some i.pl
  ar : i.kd = 2 → P.underlying t = some (.array i.ar i.el)
  sl : i.kd = 3 → P.underlying t = some (.slice i.el)
  tx : i.kd = 5 → P.underlying t = some .string
  eq : ∀ ks, i.eq = some ks → P.eqGuardType P.depth t = false ∧ flatD P 100 t = some ks
  ik : ∀ k, i.ik = some k → P.underlying t = some (.int k)
  by_ : (P.info? t).map (·.bytes) = some i.by_
  ro : ∀ τ, i.ro = some τ → tsz τ = i.sz
  zs : ∀ z, i.ze = some z → z.cells.size = i.sz

/-! ### Lists of cells -/
theorem nth_ok {c : Cx} : ∀ (l : AV) (i : Nat) {v : AV} {cs : List Value}, nth l i = some v → sat l c cs → ∃ x, cs[i]? = some x ∧ sat v c [x]
  | .cons a b, 0, v, cs, h, ⟨x, r, e, h1, _⟩ => by
    injection h with h; subst h e
    exact ⟨x, rfl, h1⟩
  | .cons a b, i + 1, v, cs, h, ⟨x, r, e, _, h2⟩ => by
    subst e
    obtain ⟨y, hy, hs⟩ := nth_ok b i h h2
    exact ⟨y, by simpa using hy, hs⟩

theorem tk_ok {c : Cx} : ∀ (l : AV) (n : Nat) {p : AV} {cs : List Value}, tk l n = some p → sat l c cs → n ≤ cs.length ∧ sat p c (cs.take n)
  | l, 0, p, cs, h, _ => by
    have : p = .nil := by cases l <;> (injection h with h; exact h.symm)
    subst this
    exact ⟨Nat.zero_le _, by simp [sat]⟩
  | .cons a b, n + 1, p, cs, h, ⟨x, r, e, h1, h2⟩ => by
    simp only [tk, Option.map_eq_some_iff] at h
    obtain ⟨q, hq, rfl⟩ := h
    subst e
    obtain ⟨hn, hs⟩ := tk_ok b n hq h2
    exact ⟨by simpa using hn, ⟨x, r.take n, by simp, h1, hs⟩⟩

theorem part_ok {c : Cx} : ∀ (l : AV) (o n : Nat) {p : AV} {cs : List Value}, part l o n = some p → sat l c cs → o + n ≤ cs.length ∧ sat p c ((cs.drop o).take n)
  | l, 0, n, p, cs, h, hs => by
    have h' : tk l n = some p := by cases l <;> exact h
    simpa using tk_ok l n h' hs
  | .cons a b, o + 1, n, p, cs, h, ⟨x, r, e, _, h2⟩ => by
    subst e
    have := part_ok b o n h h2
    exact ⟨by simp; omega, by simpa using this.2⟩

theorem over_ok {c : Cx} : ∀ (l x : AV) {l' : AV} {cs xs : List Value}, over l x = some l' → sat l c cs → sat x c xs → xs.length ≤ cs.length ∧ sat l' c (xs ++ cs.drop xs.length)
  | l, .nil, l', cs, xs, h, hs, hx => by
    have h' : l = l' := by cases l <;> (injection h)
    have hx' : xs = [] := hx
    subst h' hx'
    exact ⟨Nat.zero_le _, by simpa using hs⟩
  | .cons a b, x, l', cs, xs, h, ⟨x0, q, e, hx0, h2⟩, hx => by
    cases x with
    | nil =>
      injection h with h
      have hx' : xs = [] := hx
      subst h hx' e
      exact ⟨Nat.zero_le _, by simpa using ⟨x0, q, rfl, hx0, h2⟩⟩
    | cons y0 r =>
      obtain ⟨y, z, ey, hy1, hy2⟩ := hx
      simp only [over, Option.map_eq_some_iff] at h
      obtain ⟨m, hm, rfl⟩ := h
      subst e ey
      obtain ⟨hn, hs⟩ := over_ok b r hm h2 hy2
      exact ⟨by simpa using hn, ⟨y, z ++ q.drop z.length, by simp, hy1, hs⟩⟩
    | _ => cases h

theorem setc_ok {c : Cx} : ∀ (l : AV) (o : Nat) (x : AV) {l' : AV} {cs xs : List Value}, setc l o x = some l' → sat l c cs → sat x c xs →
    o + xs.length ≤ cs.length ∧ sat l' c (cs.take o ++ xs ++ cs.drop (o + xs.length))
  | l, 0, x, l', cs, xs, h, hs, hx => by
    have h' : over l x = some l' := by cases l <;> exact h
    simpa using over_ok l x h' hs hx
  | .cons a b, o + 1, x, l', cs, xs, h, ⟨y, r, e, h1, h2⟩, hx => by
    simp only [setc, Option.map_eq_some_iff] at h
    obtain ⟨m, hm, rfl⟩ := h
    subst e
    obtain ⟨hn, hs⟩ := setc_ok b o x hm h2 hx
    refine ⟨by simp; omega, ⟨y, r.take o ++ xs ++ r.drop (o + xs.length), ?_, h1, hs⟩⟩
    simp [show o + 1 + xs.length = (o + xs.length) + 1 by omega]

theorem ofValues_ok (c : Cx) : ∀ (l : List Value), sat (ofValues l) c l
  | [] => rfl
  | x :: r => ⟨x, r, rfl, rfl, ofValues_ok c r⟩

theorem lenIs_ok {c : Cx} : ∀ (l : AV) (n : Nat) {cs : List Value}, lenIs l n = true → sat l c cs → cs.length = n
  | .nil, 0, cs, _, h => by
    have : cs = [] := h
    subst this; rfl
  | .cons a b, n + 1, cs, h, ⟨x, r, e, _, h2⟩ => by
    subst e
    simpa using lenIs_ok b n h h2

theorem one_ok {c : Cx} {v : AV} {x : Value} (h : one v = true) (hs : sat v c [x]) : x.oneCell' = true := by
  cases v with
  | v y =>
    have : x = y := by simpa [sat] using hs
    subst this
    cases x <;> first | rfl | cases h
  | fn f l =>
    obtain ⟨cs, e, _⟩ := hs
    simp at e; subst e; rfl
  | ptr i o =>
    obtain ⟨_, b, _, e⟩ := hs
    simp at e; subst e; rfl
  | rl q t l =>
    obtain ⟨A, m, e, _⟩ := hs
    simp at e; subst e; rfl
  | rc q t l =>
    obtain ⟨A, e, _⟩ := hs
    simp at e; subst e; rfl
  | sc i o n m t =>
    obtain ⟨_, b, _, e⟩ := hs
    simp at e; subst e; rfl
  | em =>
    obtain ⟨A, e⟩ := hs
    simp at e; subst e; rfl
  | ow i k n =>
    obtain ⟨_, _, e, _⟩ := hs
    simp at e; subst e; exact c.one i
  | ws i k lo n =>
    obtain ⟨_, _, A, m, A', _, _, _, e⟩ := hs
    simp at e; subst e; rfl
  | _ => cases h

theorem ones_ok {c : Cx} : ∀ (l : AV) {cs : List Value}, ones l = true → sat l c cs → ∀ x ∈ cs, x.oneCell' = true
  | .nil, cs, _, h, x, hx => by
    have : cs = [] := h
    subst this; cases hx
  | .cons a b, cs, h, ⟨y, r, e, h1, h2⟩, x, hx => by
    subst e
    simp only [ones, Bool.and_eq_true] at h
    rcases List.mem_cons.1 hx with rfl | hx
    · exact one_ok h.1 h1
    · exact ones_ok b h.2 h2 x hx

theorem cells_one {x : Value} (h : x.oneCell' = true) : x.cells.toList = [x] := by
  cases x <;> first | rfl | cases h

theorem cellsOf_ok {c : Cx} {v l : AV} {x : Value} (h : cellsOf v = some l) (hs : sat v c [x]) : sat l c x.cells.toList ∧ ∀ y ∈ x.cells.toList, y.oneCell' = true := by
  have key : ∀ y : AV, one y = true → sat y c [x] → sat (.cons y .nil) c x.cells.toList ∧ ∀ y ∈ x.cells.toList, y.oneCell' = true := by
    intro y hu hsu
    have h1 := one_ok hu hsu
    rw [cells_one h1]
    exact ⟨⟨x, [], rfl, hsu, rfl⟩, by simpa using h1⟩
  cases v with
  | agg m =>
    obtain ⟨cs, e, hm⟩ := hs
    simp at e; subst e
    simp only [cellsOf] at h
    cases ho : ones m with
    | false => simp [ho] at h
    | true =>
      simp [ho] at h; subst h
      exact ⟨hm, ones_ok m ho hm⟩
  | v y =>
    simp only [cellsOf] at h
    cases ho : one (.v y) with
    | false => simp [ho] at h
    | true =>
      simp [ho] at h; subst h
      exact key _ ho hs
  | fn f m => injection h with h; subst h; exact key _ rfl hs
  | ptr i o => injection h with h; subst h; exact key _ rfl hs
  | rl q t l => injection h with h; subst h; exact key _ rfl hs
  | rc q t l => injection h with h; subst h; exact key _ rfl hs
  | em => injection h with h; subst h; exact key _ rfl hs
  | sc i o n m t => injection h with h; subst h; exact key _ rfl hs
  | ow i k n => injection h with h; subst h; exact key _ rfl hs
  | ws i k lo n => injection h with h; subst h; exact key _ rfl hs
  | _ => cases h

theorem ofFn_ok {c : Cx} {e : Nat → AV} : ∀ (n o : Nat) {cs : List Value}, cs.length = n → (∀ j, j < n → ∃ x, cs[j]? = some x ∧ sat (e (o + j)) c [x]) → sat (ofFn e o n) c cs
  | 0, o, cs, hl, _ => by
    have : cs = [] := List.eq_nil_of_length_eq_zero hl
    exact this
  | n + 1, o, cs, hl, h => by
    match cs, hl with
    | x :: r, hl =>
      obtain ⟨y, hy, hs⟩ := h 0 (by omega)
      have : x = y := by simpa using hy
      subst this
      refine ⟨x, r, rfl, hs, ofFn_ok n (o + 1) (by simpa using hl) fun j hj => ?_⟩
      obtain ⟨z, hz, hsz⟩ := h (j + 1) (by omega)
      exact ⟨z, by simpa using hz, by rw [show o + 1 + j = o + (j + 1) by omega]; exact hsz⟩

/-! ### Elements of rows -/
theorem castK_ok {α : Sort _} {P : α → Prop} {t t' : Ty} {l : List (El t)} {no : α} {K : List (El t') → α} (hno : P no) (hK : ∀ h : t = t', P (K (h ▸ l))) : P (castK t t' l no K) := by
  unfold castK
  split
  · rename_i h _
    subst h
    exact hK rfl
  · exact hno

theorem memE_len {w : World} {O : Nat → Prop} {b : Nat} : ∀ (t : Ty) (x : El t) (vs : List Value), memE w O b t x vs → vs.length = tsz t ∧ ∀ v ∈ vs, v.oneCell' = true
  | .nil, _, vs, h => by
    have : vs = [] := h
    subst this; exact ⟨rfl, fun v hv => by cases hv⟩
  | .int k r, x, vs, ⟨vs', e, h⟩ => by
    subst e
    obtain ⟨h1, h2⟩ := memE_len r x.2 vs' h
    exact ⟨by simp [tsz, h1], fun v hv => by rcases List.mem_cons.1 hv with rfl | hv; exact rfl; exact h2 v hv⟩
  | .bool r, x, vs, ⟨vs', e, h⟩ => by
    subst e
    obtain ⟨h1, h2⟩ := memE_len r x.2 vs' h
    exact ⟨by simp [tsz, h1], fun v hv => by rcases List.mem_cons.1 hv with rfl | hv; exact rfl; exact h2 v hv⟩
  | .str r, x, vs, ⟨vs', e, h⟩ => by
    subst e
    obtain ⟨h1, h2⟩ := memE_len r x.2 vs' h
    exact ⟨by simp [tsz, h1], fun v hv => by rcases List.mem_cons.1 hv with rfl | hv; exact rfl; exact h2 v hv⟩
  | .sl a r, x, vs, ⟨A, m, vs', e, _, _, h⟩ => by
    subst e
    obtain ⟨h1, h2⟩ := memE_len r x.2 vs' h
    exact ⟨by simp [tsz, h1], fun v hv => by rcases List.mem_cons.1 hv with rfl | hv; exact rfl; exact h2 v hv⟩

theorem Keeps.q {w : World} {O : Nat → Prop} {b b' : Nat} (h : b' ≤ b) : Keeps w O b w O b' := ⟨fun _ h _ _ => h, Nat.le_refl _, fun _ _ _ _ => rfl, fun _ _ _ h' => Nat.le_trans h h'⟩
theorem memE_q {w : World} {O : Nat → Prop} {b b' : Nat} (h : b' ≤ b) {t : Ty} {x : El t} {vs : List Value} (hm : memE w O b t x vs) : memE w O b' t x vs := memE_keeps (Keeps.q h) t x vs hm
theorem memR_q {w : World} {O : Nat → Prop} {b b' : Nat} (h : b' ≤ b) {t : Ty} {A : Option Addr} {l : List (El t)} (hm : memL w O b (tsz t) (memE w O b t) A l) : memL w O b' (tsz t) (memE w O b' t) A l := memR_keeps (Keeps.q h) hm

/-- An element's cells. -/
theorem encC_ok {c : Cx} {q : Bool} : ∀ (t : Ty) (x : El t) (vs : List Value), memE c.w c.O (qb q c.b0) t x vs → sat (encC q t x) c vs
  | .nil, _, vs, h => h
  | .int k r, x, vs, ⟨vs', e, h⟩ => ⟨_, vs', e, rfl, encC_ok r x.2 vs' h⟩
  | .bool r, x, vs, ⟨vs', e, h⟩ => ⟨_, vs', e, rfl, encC_ok r x.2 vs' h⟩
  | .str r, x, vs, ⟨vs', e, h⟩ => ⟨_, vs', e, rfl, encC_ok r x.2 vs' h⟩
  | .sl a r, x, vs, ⟨A, m, vs', e, hl, hL, h⟩ => ⟨_, vs', e, ⟨A, m, rfl, hl, hL⟩, encC_ok r x.2 vs' h⟩

/-- The element that cells are. -/
theorem decK_ok {α : Type} {P : α → Prop} {c : Cx} {no : α} (hno : P no) : ∀ (t : Ty) (l : AV) (vs : List Value) (K : Bool → El t → α), sat l c vs → (∀ q x, memE c.w c.O (qb q c.b0) t x vs → P (K q x)) → P (decK t l no K)
  | .nil, l, vs, K, hs, hK => by
    cases l with
    | nil => exact hK true () hs
    | _ => exact hno
  | .int k r, l, vs, K, hs, hK => by
    cases l with
    | cons h m =>
      obtain ⟨y, vs', rfl, h1, h2⟩ := hs
      cases h with
      | v z =>
        cases z with
        | int k' n =>
          simp only [decK]
          split
          · rename_i hk
            subst hk
            have hy : y = .int k' n := by simpa [sat] using h1
            exact decK_ok hno r m vs' _ h2 fun q x hx => hK q (n, x) ⟨vs', by rw [hy], hx⟩
          · exact hno
        | _ => simp only [decK]; exact hno
      | _ => simp only [decK]; exact hno
    | _ => simp only [decK]; exact hno
  | .bool r, l, vs, K, hs, hK => by
    cases l with
    | cons h m =>
      obtain ⟨y, vs', rfl, h1, h2⟩ := hs
      cases h with
      | v z =>
        cases z with
        | bool n =>
          simp only [decK]
          have hy : y = .bool n := by simpa [sat] using h1
          exact decK_ok hno r m vs' _ h2 fun q x hx => hK q (n, x) ⟨vs', by rw [hy], hx⟩
        | _ => simp only [decK]; exact hno
      | _ => simp only [decK]; exact hno
    | _ => simp only [decK]; exact hno
  | .str r, l, vs, K, hs, hK => by
    cases l with
    | cons h m =>
      obtain ⟨y, vs', rfl, h1, h2⟩ := hs
      cases h with
      | v z =>
        cases z with
        | string n =>
          simp only [decK]
          have hy : y = .string n := by simpa [sat] using h1
          exact decK_ok hno r m vs' _ h2 fun q x hx => hK q (n, x) ⟨vs', by rw [hy], hx⟩
        | _ => simp only [decK]; exact hno
      | _ => simp only [decK]; exact hno
    | _ => simp only [decK]; exact hno
  | .sl a r, l, vs, K, hs, hK => by
    cases l with
    | cons h m =>
      obtain ⟨y, vs', rfl, h1, h2⟩ := hs
      cases h with
      | rl q t l =>
        simp only [decK]
        refine castK_ok hno fun e => ?_
        subst e
        obtain ⟨A, cp, e, hm, hL⟩ := h1
        refine decK_ok hno r m vs' _ h2 fun q' x hx => hK (q && q') (l, x) ⟨A, cp, vs', by simpa using e, hm, memR_q (qb_mono (by simp; exact fun h _ => h) (Nat.le_refl _)) hL, memE_q (qb_mono (by simp) (Nat.le_refl _)) hx⟩
      | rc q t l =>
        simp only [decK]
        refine castK_ok hno fun e => ?_
        subst e
        obtain ⟨A, e, hL⟩ := h1
        refine decK_ok hno r m vs' _ h2 fun q' x hx => hK (q && q') (l, x) ⟨A, _, vs', by simpa using e, Nat.le_refl _, memR_q (qb_mono (by simp; exact fun h _ => h) (Nat.le_refl _)) hL, memE_q (qb_mono (by simp) (Nat.le_refl _)) hx⟩
      | em =>
        simp only [decK]
        obtain ⟨A, e⟩ := h1
        exact decK_ok hno r m vs' _ h2 fun q x hx => hK q ([], x) ⟨A, 0, vs', by rw [show y = .slice A 0 0 by simpa using e]; rfl, Nat.le_refl _, fun i y hy => by simp at hy, hx⟩
      | v z =>
        cases z with
        | slice A n cp =>
          cases A with
          | none =>
            simp only [decK]
            cases hn : Nat.beq n 0 with
            | false => exact hno
            | true =>
              have hn0 : n = 0 := Nat.eq_of_beq_eq_true hn
              have hy : y = .slice none n cp := by simpa [sat] using h1
              exact decK_ok hno r m vs' _ h2 fun q x hx => hK q ([], x) ⟨none, cp, vs', by rw [hy, hn0]; rfl, Nat.zero_le _, fun i y hy => by simp at hy, hx⟩
          | some ad => simp only [decK]; exact hno
        | _ => simp only [decK]; exact hno
      | _ => simp only [decK]; exact hno
    | _ => simp only [decK]; exact hno

/-- Elements, one behind the other. -/
theorem decN_ok {α : Type} {P : α → Prop} {c : Cx} {no : α} (hno : P no) (t : Ty) : ∀ (n : Nat) (l : AV) (vs : List Value) (K : Bool → List (El t) → α), sat l c vs →
    (∀ q xs, xs.length = n → n * tsz t ≤ vs.length → (∀ j y, xs[j]? = some y → memE c.w c.O (qb q c.b0) t y ((vs.drop (j * tsz t)).take (tsz t))) → P (K q xs)) → P (decN t n l no K)
  | 0, l, vs, K, hs, hK => hK true [] rfl (by simp) fun j y hy => by simp at hy
  | n + 1, l, vs, K, hs, hK => by
    unfold decN
    split
    · rename_i a b ha hb
      obtain ⟨hla, hsa⟩ := part_ok l 0 (tsz t) ha hs
      obtain ⟨hlb, hsb⟩ := part_ok l (tsz t) (n * tsz t) hb hs
      rw [List.drop_zero] at hsa
      refine decK_ok hno t a _ _ hsa fun q x hx => ?_
      refine decN_ok hno t n b _ _ hsb fun q' r hr hle hall => ?_
      refine hK (q && q') (x :: r) (by simp [hr]) (by rw [Nat.add_mul]; omega) fun j y hy => ?_
      cases j with
      | zero =>
        have : x = y := by simpa using hy
        subst this
        rw [Nat.zero_mul, List.drop_zero]
        exact memE_q (qb_mono (by simp; exact fun h _ => h) (Nat.le_refl _)) hx
      | succ j =>
        have := hall j y (by simpa using hy)
        have hj : j < n := by
          have := (List.getElem?_eq_some_iff.1 hy).1
          simp at this; omega
        have hd : ((List.take (n * tsz t) (List.drop (tsz t) vs)).drop (j * tsz t)).take (tsz t) = (vs.drop ((j + 1) * tsz t)).take (tsz t) := by
          rw [List.drop_take, List.drop_drop, List.take_take, Nat.min_eq_left]
          · rw [show tsz t + j * tsz t = (j + 1) * tsz t by rw [Nat.add_mul]; omega]
          · have : (j + 1) * tsz t ≤ n * tsz t := Nat.mul_le_mul_right _ hj
            rw [Nat.add_mul] at this; omega
        rw [hd] at this
        exact memE_q (qb_mono (by simp) (Nat.le_refl _)) this
    · exact hno

theorem getE_ok {t : Ty} {l : List (El t)} {i : Nat} (h : i < l.length) : l[i]? = some (getE t l i) := by
  unfold getE
  simp [List.getD, h]

/-- A cell of a row's element. -/
theorem nth_len {c : Cx} : ∀ (l : AV) (i : Nat) {cs : List Value} {x : Value}, sat l c cs → (∃ n, lenIs l n = true) → cs[i]? = some x → sat (nthD l i) c [x]
  | .nil, i, cs, x, hs, _, h => by
    have : cs = [] := hs
    subst this; simp at h
  | .cons a b, 0, cs, x, ⟨y, r, e, h1, _⟩, _, h => by
    subst e
    have : y = x := by simpa using h
    subst this; exact h1
  | .cons a b, i + 1, cs, x, ⟨y, r, e, _, h2⟩, ⟨n, hn⟩, h => by
    subst e
    cases n with
    | zero => cases hn
    | succ n => exact nth_len b i h2 ⟨n, hn⟩ (by simpa using h)
  | .u, _, _, _, _, ⟨n, h⟩, _ => by cases n <;> cases h
  | .v _, _, _, _, _, ⟨n, h⟩, _ => by cases n <;> cases h
  | .agg _, _, _, _, _, ⟨n, h⟩, _ => by cases n <;> cases h
  | .tup _, _, _, _, _, ⟨n, h⟩, _ => by cases n <;> cases h
  | .fn _ _, _, _, _, _, ⟨n, h⟩, _ => by cases n <;> cases h
  | .gd _ _, _, _, _, _, ⟨n, h⟩, _ => by cases n <;> cases h
  | .ptr _ _, _, _, _, _, ⟨n, h⟩, _ => by cases n <;> cases h
  | .sc _ _ _ _ _, _, _, _, _, ⟨n, h⟩, _ => by cases n <;> cases h
  | .rl _ _ _, _, _, _, _, ⟨n, h⟩, _ => by cases n <;> cases h
  | .rc _ _ _, _, _, _, _, ⟨n, h⟩, _ => by cases n <;> cases h
  | .em, _, _, _, _, ⟨n, h⟩, _ => by cases n <;> cases h
  | .rp _ _ _, _, _, _, _, ⟨n, h⟩, _ => by cases n <;> cases h
  | .ow _ _ _, _, _, _, _, ⟨n, h⟩, _ => by cases n <;> cases h
  | .ws _ _ _ _, _, _, _, _, ⟨n, h⟩, _ => by cases n <;> cases h
  | .op _ _ _ _, _, _, _, _, ⟨n, h⟩, _ => by cases n <;> cases h
theorem encC_len (q : Bool) : ∀ (t : Ty) (x : El t), lenIs (encC q t x) (tsz t) = true
  | .nil, _ => rfl
  | .int k r, x => encC_len q r x.2
  | .bool r, x => encC_len q r x.2
  | .str r, x => encC_len q r x.2
  | .sl a r, x => encC_len q r x.2

end Go.Proofs.Ythlkhjfilfdpiaa.Eng
