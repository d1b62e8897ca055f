/- ENGINE 2, 5: the other operations. -/
import Derived.Test.YthlkhjfilfdpiaaF4B
namespace Go.Proofs.Ythlkhjfilfdpiaa.Eng
set_option linter.unusedVariables false
set_option linter.unusedSimpArgs false
open Go Go.RowKit

section
variable {P : Program} {W0 : World} {X : Bd} {N : Nat} {c : Cx} {fr : Fr} {hp : List AO} {nx : Nat} {a : Act} {o : Oper} {ρ : Operand → AV}

theorem run_sizeOf {t : TypeId} {i : TI} (hi : TIok P t i) (w : World) : (sizeOf t).run P w = .ok i.sz w := by
  have := hi.sz
  cases hq : P.info? t with
  | none => simp [hq] at this
  | some ti => simp [hq] at this; simp [sizeOf, typeInfo, hq, this, Sem.run_bind]

theorem field_at {t : TypeId} {i : TI} (hi : TIok P t i) (hk : i.kd = 1) {f off : Nat} {tf : TypeId} (hf : i.fl[f]? = some (off, tf)) :
    ∃ (fs : Array Field) (fd : Field), P.underlying t = some (.struct fs) ∧ fs[f]? = some fd ∧ fd.offset = off ∧ fd.type = tf := by
  obtain ⟨fs, hu, hfl, _⟩ := hi.st hk
  rw [← hfl] at hf
  simp only [List.getElem?_map, Option.map_eq_some_iff] at hf
  obtain ⟨fd, hfd, he⟩ := hf
  simp only [Prod.mk.injEq] at he
  exact ⟨fs, fd, hu, by simpa using hfd, he.1, he.2⟩

theorem good_fieldAddr (t : TypeId) (x : Operand) (f : Nat) (hop : o.op = .fieldAddr t x f) (i : TI) (hi : TIok P t i) (hk : i.kd = 1) {off : Nat} {tf : TypeId} (hf : i.fl[f]? = some (off, tf))
    (j : TI) (hj : TIok P tf j) (hz : 0 < j.sz) (hx : sat (ρ x) c [a.eval x]) : GoodR P W0 X N c fr hp nx a o (addR off (ρ x)) := by
  obtain ⟨fs, fd, hu, hfd, ho, ht⟩ := field_at hi hk hf
  have run : ∀ b q, a.eval x = .pointer (some ⟨b, q, none⟩) → (execOp a.eval o).run P c.w = .ok (.value (.pointer (some ⟨b, q + off, none⟩))) c.w := by
    intro b q he
    unfold execOp; rw [hop]
    have hs : (sizeOf fd.type).run P c.w = .ok j.sz c.w := by rw [ht]; exact run_sizeOf hj c.w
    have hne : ¬ j.sz = 0 := by omega
    simp only [Sem.run_bind, he, Instr.fieldAt, run_underlying hu, Result.andThen_ok, hfd, Instr.sureAddr, Sem.run_pure, fieldPlace, hs, if_neg hne, Addr.add_mid, ho]
  generalize ρ x = r at hx
  cases r with
  | ptr k q =>
    obtain ⟨hk, b, hb, e⟩ := hx
    exact ⟨_, run b q (by simpa using e), hk, b, hb, rfl⟩
  | rp k e q =>
    obtain ⟨b, q0, hv, hO, hb, hc⟩ := hx
    refine ⟨_, run b (q0 + q) (by simpa using hv), b, q0, ?_, hO, hb, hc⟩
    rw [Nat.add_assoc]
  | op j k y q =>
    obtain ⟨hj, hy, b, hb, e⟩ := hx
    refine ⟨_, run b (y * k + q) (by simpa using e), hj, hy, b, hb, ?_⟩
    rw [Nat.add_assoc]
  | _ => trivial

theorem good_part (l : AV) (cs : Array Value) (hs : sat l c cs.toList) (t : TypeId) (i : TI) (hi : TIok P t i) (off : Nat) :
    ∀ v, (partR i l off = .ok v) → ∃ y, (Go.part t cs off).run P c.w = .ok y c.w ∧ sat v c [y] := by
  intro v hv
  have hu := hi.ag
  cases hq : P.underlying t with
  | none => simp [hq] at hu
  | some d =>
    have hd : d.isRow = i.ag := by simpa [hq] using hu
    have hagg : (isAgg t).run P c.w = .ok i.ag c.w := by
      unfold isAgg
      rw [Sem.run_bind, run_underlying hq c.w]
      cases d <;> simp_all
    unfold partR at hv
    cases hag : i.ag with
    | true =>
      rw [hag] at hagg
      simp only [hag, cond_true] at hv
      cases hp : Eng.part l off i.sz with
      | none => simp [hp, lift] at hv
      | some p =>
        simp [hp, lift] at hv
        subst hv
        obtain ⟨hle, hsp⟩ := part_ok l off i.sz hp hs
        refine ⟨.agg (cs.extract off (off + i.sz)), ?_, ⟨_, rfl, ?_⟩⟩
        · simp [Go.part, Sem.run_bind, hagg, run_sizeOf hi]
        · simpa [Array.toList_extract, List.extract, Nat.add_sub_cancel_left] using hsp
    | false =>
      rw [hag] at hagg
      simp only [hag, cond_false] at hv
      cases hp : (Eng.part l off 1).bind (nth · 0) with
      | none => simp [hp, lift] at hv
      | some p =>
        simp [hp, lift] at hv
        subst hv
        simp only [Option.bind_eq_some_iff] at hp
        obtain ⟨q, hq1, hq2⟩ := hp
        obtain ⟨hle, hsp⟩ := part_ok l off 1 hq1 hs
        obtain ⟨y, hy, hsy⟩ := nth_ok q 0 hq2 hsp
        refine ⟨y, ?_, hsy⟩
        have : cs[off]? = some y := by
          rw [List.getElem?_take] at hy
          simpa [List.getElem?_drop] using hy
        simp [Go.part, Sem.run_bind, hagg, this]

theorem good_field (t : TypeId) (x : Operand) (f : Nat) (hop : o.op = .field t x f) (i : TI) (hi : TIok P t i) (hk : i.kd = 1) {off : Nat} {tf : TypeId} (hf : i.fl[f]? = some (off, tf))
    (j : TI) (hj : TIok P tf j) {l : AV} (hx : sat (.agg l) c [a.eval x]) : GoodR P W0 X N c fr hp nx a o (partR j l off) := by
  obtain ⟨fs, fd, hu, hfd, ho, ht⟩ := field_at hi hk hf
  obtain ⟨cs, e, hs⟩ := hx
  have e' : a.eval x = .agg cs := by simpa using e
  rcases partR_ok (i := j) (l := l) (off := off) with ⟨v, hv⟩ | hv
  · rw [hv]
    obtain ⟨y, hr, hy⟩ := good_part l cs hs tf j hj off v hv
    refine ⟨y, ?_, hy⟩
    unfold execOp; rw [hop]
    simp only [Sem.run_bind, e', Instr.field, run_underlying hu, Result.andThen_ok, hfd, asAgg, Sem.run_pure, ho, ht, hr]
  · rw [hv]; trivial

theorem rl_elem {b0 : Nat} {q : Bool} {τ : Ty} {l : List (El τ)} {A : Option Addr} (hq : qb q c.b0 = b0) (h : memL c.w c.O b0 (tsz τ) (memE c.w c.O b0 τ) A l) {z : Int} (h0 : 0 ≤ z) (h1 : z < l.length) :
    ∃ b p, A = some ⟨b, p, none⟩ ∧ sat (.rp (tsz τ) (fun y => nthD (encC q τ (getE τ l z.toNat)) y) 0) c [.pointer (some ⟨b, p + z.toNat * tsz τ, none⟩)] := by
  obtain ⟨ad, rfl, hsp, hO, hlt, hb0, cs, hc, hr, hE⟩ := h z.toNat _ (getE_ok (by omega))
  obtain ⟨b, p, sp⟩ := ad
  simp only at hsp hO hlt hr
  subst hsp
  subst hq
  refine ⟨b, p, rfl, b, p + z.toNat * tsz τ, rfl, hO, hlt, fun j hj => ?_⟩
  have hget : cs[j]? = some (cs[j]'(by omega)) := List.getElem?_eq_getElem (by omega)
  refine ⟨_, hr j _ hget, nth_len (c := c.bare) _ j (encC_ok τ _ _ hE) ⟨_, encC_len q τ _⟩ hget⟩

theorem good_indexAddr (h : Gam W0 X N c fr hp nx a) (t : TypeId) (x y : Operand) (hop : o.op = .indexAddr t x y) (i : TI) (hi : TIok P t i) (ie : TI) (hie : TIok P i.el ie) {k : IntKind} {z : Int} (hx : sat (ρ x) c [a.eval x]) (hy : a.eval y = .int k z) :
    GoodR P W0 X N c fr hp nx a o (indexAddrR i.kd i.ar ie.sz z (ρ x)) := by
  have runS : ∀ (b q m cap : Nat), Nat.beq i.kd 3 = true → a.eval x = .slice (some ⟨b, q, none⟩) m cap → 0 ≤ z → z < m → (execOp a.eval o).run P c.w = .ok (.value (.pointer (some ⟨b, q + z.toNat * ie.sz, none⟩))) c.w := by
    intro b q m cap hk e' h0 h1
    have hu := hi.sl (Nat.eq_of_beq_eq_true hk)
    unfold execOp; rw [hop]
    simp only [Sem.run_bind, e', hy, Instr.indexAt, asIntOf, run_underlying hu, Result.andThen_ok, Instr.sureAddr, Sem.run_pure]
    simp only [h0, h1, and_self, if_true, Sem.run_bind, run_sizeOf hie, Result.andThen_ok, Sem.run_pure, Addr.add_mid]
  generalize ρ x = r at hx
  cases r with
  | ptr j q =>
    simp only [indexAddrR]
    cases hkd : Nat.beq i.kd 2 with
    | false => trivial
    | true =>
      simp only [cond_true]
      rintro ⟨h0, h1⟩
      obtain ⟨hj, b, hb, e⟩ := hx
      have e' : a.eval x = .pointer (some ⟨b, q, none⟩) := by simpa using e
      have hu := hi.ar (Nat.eq_of_beq_eq_true hkd)
      refine ⟨.pointer (some ⟨b, q + z.toNat * ie.sz, none⟩), ?_, hj, b, hb, rfl⟩
      unfold execOp; rw [hop]
      simp only [Sem.run_bind, e', hy, Instr.indexAt, asIntOf, run_underlying hu, Result.andThen_ok, Instr.sureAddr, Sem.run_pure]
      simp only [h0, h1, and_self, if_true, Sem.run_bind, run_sizeOf hie, Result.andThen_ok, Sem.run_pure, Addr.add_mid]
  | sc j q m cap τ =>
    simp only [indexAddrR]
    cases hkd : Nat.beq i.kd 3 with
    | false => trivial
    | true =>
      simp only [cond_true]
      rintro ⟨h0, h1⟩
      obtain ⟨hj, b, hb, e⟩ := hx
      exact ⟨_, runS b q m cap hkd (by simpa using e) h0 h1, hj, b, hb, rfl⟩
  | rl q τ l =>
    simp only [indexAddrR]
    cases hkd : (Nat.beq i.kd 3 && Nat.beq (tsz τ) ie.sz) with
    | false => trivial
    | true =>
      simp only [Bool.and_eq_true] at hkd
      simp only [cond_true]
      rintro ⟨h0, h1⟩
      obtain ⟨A, cap, e, hm, hL⟩ := hx
      obtain ⟨b, p, rfl, hs⟩ := rl_elem rfl hL h0 h1
      have hk' := Nat.eq_of_beq_eq_true hkd.2
      rw [← hk']
      exact ⟨_, by have := runS b p _ cap hkd.1 (by simpa using e) h0 h1; rw [← hk'] at this; exact this, hs⟩
  | rc q τ l =>
    simp only [indexAddrR]
    cases hkd : (Nat.beq i.kd 3 && Nat.beq (tsz τ) ie.sz) with
    | false => trivial
    | true =>
      simp only [Bool.and_eq_true] at hkd
      simp only [cond_true]
      rintro ⟨h0, h1⟩
      obtain ⟨A, e, hL⟩ := hx
      obtain ⟨b, p, rfl, hs⟩ := rl_elem rfl hL h0 h1
      have hk' := Nat.eq_of_beq_eq_true hkd.2
      rw [← hk']
      exact ⟨_, by have := runS b p _ _ hkd.1 (by simpa using e) h0 h1; rw [← hk'] at this; exact this, hs⟩
  | ow j k' m =>
    simp only [indexAddrR]
    cases hkd : (Nat.beq i.kd 3 && Nat.beq k' ie.sz) with
    | false => trivial
    | true =>
      simp only [Bool.and_eq_true] at hkd
      simp only [cond_true]
      rintro ⟨h0, h1⟩
      obtain ⟨hj, hn, e, A, cap, hv, hm⟩ := hx
      have e' : a.eval x = .slice A m cap := by rw [← hv]; simpa using e
      obtain ⟨b, rfl⟩ := c.at0 j _ _ _ hv (by omega)
      exact ⟨_, runS b 0 m cap hkd.1 e' h0 h1, hj, by omega, b, by rw [hv]; rfl, by simp⟩
  | ws j k' lo m =>
    simp only [indexAddrR]
    cases hkd : (Nat.beq i.kd 3 && Nat.beq k' ie.sz) with
    | false => trivial
    | true =>
      simp only [Bool.and_eq_true] at hkd
      simp only [cond_true]
      rintro ⟨h0, h1⟩
      have hk' := Nat.eq_of_beq_eq_true hkd.2
      subst hk'
      obtain ⟨hj, hn, A, cap, A', hv, hm, hA', e⟩ := hx
      obtain ⟨b, rfl⟩ := c.at0 j _ _ _ hv (by omega)
      have hne : A' = some ⟨b, lo * ie.sz, none⟩ := by rw [hA' (by omega)]; simp [Addr.add_mid]
      have e' : a.eval x = .slice (some ⟨b, lo * ie.sz, none⟩) m (cap - lo) := by rw [← hne]; simpa using e
      exact ⟨_, runS b _ m _ hkd.1 e' h0 h1, hj, by omega, b, by rw [hv]; rfl, by rw [Nat.add_mul]; simp⟩
  | _ => trivial

theorem good_index (t : TypeId) (x y : Operand) (hop : o.op = .index t x y) (i : TI) (hi : TIok P t i) (hk : i.kd = 2) (ie : TI) (hie : TIok P i.el ie) {k : IntKind} {z : Int} {l : AV} (hx : sat (.agg l) c [a.eval x]) (hy : a.eval y = .int k z) :
    GoodR P W0 X N c fr hp nx a o (match partR ie l (z.toNat * ie.sz) with | .ok v => .ob (0 ≤ z ∧ z < i.ar) v | _ => .no) := by
  rcases partR_ok (i := ie) (l := l) (off := z.toNat * ie.sz) with ⟨v, hv⟩ | hv
  · rw [hv]
    rintro ⟨h0, h1⟩
    obtain ⟨cs, e, hs⟩ := hx
    have e' : a.eval x = .agg cs := by simpa using e
    obtain ⟨u, hr, hu⟩ := good_part l cs hs i.el ie hie _ v hv
    refine ⟨u, ?_, hu⟩
    unfold execOp; rw [hop]
    simp only [Sem.run_bind, e', hy, Instr.index, asIntOf, run_underlying (hi.ar hk), Result.andThen_ok, Sem.run_pure]
    simp only [h0, h1, and_self, if_true, Sem.run_bind, run_sizeOf hie, Result.andThen_ok, hr]
  · rw [hv]; trivial

/-! ### Operators -/
theorem good_same {k l : IntKind} {v : Value} (h : k = l → OKv P c a o (.v v)) : GoodR P W0 X N c fr hp nx a o (same k l v) := by
  unfold same
  split
  · exact h ‹_›
  · trivial

theorem good_bin (op : BinOp) (t t' : TypeId) (x y : Operand) (hop : o.op = .binOp op t x y t') {vx vy : Value} (hx : a.eval x = vx) (hy : a.eval y = vy) : GoodR P W0 X N c fr hp nx a o (binV op vx vy) := by
  have fin : ∀ v : Value, (do eqGuard op t x y vx vy; binOp op t vx vy : Sem Value).run P c.w = .ok v c.w → OKv P c a o (.v v) := fun v hr => by
    refine ⟨v, ?_, rfl⟩
    unfold execOp; rw [hop]
    simp only [hx, hy]
    rw [Sem.run_bind, hr]; rfl
  unfold binV
  split
  all_goals first
    | trivial
    | (refine good_same fun e => ?_; subst e; refine fin _ ?_; simp [eqGuard, binOp, Op.intArith, Op.intBits, Op.intCmp]; done)
    | (split
       · rename_i e; subst e; intro hb; refine fin _ ?_; simp [eqGuard, binOp, Op.intDiv, hb]; done
       · trivial)
    | (intro hb; refine fin _ ?_; simp [eqGuard, binOp, Op.shift, show ¬ _ < (0 : Int) from Int.not_lt.2 hb]; done)

theorem good_un (op : UnOp) (t : TypeId) (x : Operand) (hop : o.op = .unOp op t x) {vx : Value} (hx : a.eval x = vx) : GoodR P W0 X N c fr hp nx a o (unV op vx) := by
  unfold unV
  split
  all_goals first
    | trivial
    | (refine ⟨_, ?_, rfl⟩; unfold execOp; rw [hop]; simp only [hx]; rfl)

theorem good_extract (x : Operand) (i : Nat) (hop : o.op = .extract x i) {l : AV} (hx : sat (.tup l) c [a.eval x]) : GoodR P W0 X N c fr hp nx a o (lift (nth l i) .ok) := by
  refine lift_good fun v hv => ?_
  obtain ⟨cs, e, hs⟩ := hx
  have e' : a.eval x = .tuple cs := by simpa using e
  obtain ⟨y, hy, hsy⟩ := nth_ok l i hv hs
  refine ⟨y, ?_, hsy⟩
  have hy' : cs[i]? = some y := by simpa using hy
  unfold execOp; rw [hop]
  simp [e', Instr.extract, hy', Sem.run_bind]

theorem good_nilCheck (x : Operand) (hop : o.op = .nilCheck x) (hx : sat (ρ x) c [a.eval x]) :
    GoodR P W0 X N c fr hp nx a o (match ρ x with | .ptr i o => .ok (.ptr i o) | .rp k e o => .ok (.rp k e o) | .op j k x o => .ok (.op j k x o) | .fn f c => .ok (.fn f c) | _ => .no) := by
  generalize ρ x = r at hx
  cases r with
  | ptr i q =>
    have hx' := hx
    obtain ⟨_, b, _, e⟩ := hx
    have e' : a.eval x = .pointer (some ⟨b, q, none⟩) := by simpa using e
    refine ⟨_, ?_, e' ▸ hx'⟩
    unfold execOp; rw [hop]; simp [e']
  | rp k e q =>
    have hx' := hx
    obtain ⟨b, q0, e, _⟩ := hx
    have e' : a.eval x = .pointer (some ⟨b, q0 + q, none⟩) := by simpa using e
    refine ⟨_, ?_, e' ▸ hx'⟩
    unfold execOp; rw [hop]; simp [e']
  | op j k y q =>
    have hx' := hx
    obtain ⟨_, _, b, _, e⟩ := hx
    have e' : a.eval x = .pointer (some ⟨b, y * k + q, none⟩) := by simpa using e
    refine ⟨_, ?_, e' ▸ hx'⟩
    unfold execOp; rw [hop]; simp [e']
  | fn f l =>
    have hx' := hx
    obtain ⟨cs, e, _⟩ := hx
    have e' : a.eval x = .func (.func f) #[] cs := by simpa using e
    refine ⟨_, ?_, e' ▸ hx'⟩
    unfold execOp; rw [hop]; simp [e']
  | _ => trivial
theorem foldl_set (off : Nat) : ∀ (xs : List Value) (j : Nat) (cs : Array Value), off + j + xs.length ≤ cs.size →
    ((xs.zipIdx j).foldl (fun (cs : Array Value) (p : Value × Nat) => cs.setIfInBounds (off + p.2) p.1) cs).toList = cs.toList.take (off + j) ++ xs ++ cs.toList.drop (off + j + xs.length)
  | [], j, cs, _ => by simp
  | x :: r, j, cs, h => by
    simp only [List.length_cons] at h
    have ih := foldl_set off r (j + 1) (cs.setIfInBounds (off + j) x) (by simp; omega)
    simp only [List.zipIdx_cons, List.foldl_cons]
    rw [ih]
    have hl : off + j < cs.toList.length := by simp; omega
    simp only [Array.toList_setIfInBounds]
    rw [show off + (j + 1) = (off + j) + 1 by omega, List.take_set, List.drop_set, if_pos (by omega)]
    rw [List.take_succ_eq_append_getElem hl, List.set_append_right _ _ (by simp; omega)]
    simp [show min (off + j) cs.size = off + j by have : off + j ≤ cs.size := by omega
                                                  omega]
    rw [show off + j + 1 + r.length = off + j + (r.length + 1) by omega]

theorem fillA_ok {c : Cx} (pl : Nat → Option (Nat × Nat)) : ∀ (parts : List (Nat × AV)) (vals : List (Nat × Value)) {l l' : AV} {cs : Array Value}, fillA pl l parts = some l' → sat l c cs.toList →
    parts.length = vals.length → (∀ (i : Nat) (p : Nat × AV) (v : Nat × Value), parts[i]? = some p → vals[i]? = some v → p.1 = v.1 ∧ sat p.2 c [v.2]) → ∃ cs', Instr.fill pl cs vals = some cs' ∧ sat l' c cs'.toList
  | [], vals, l, l', cs, h, hs, hl, _ => by
    have : vals = [] := List.eq_nil_of_length_eq_zero (by simpa using hl.symm)
    subst this
    simp only [fillA, Option.some.injEq] at h
    subst h
    exact ⟨cs, rfl, hs⟩
  | (i, x) :: r, vals, l, l', cs, h, hs, hl, hp => by
    match vals, hl with
    | (j, v) :: vr, hl =>
      obtain ⟨hij, hx⟩ := hp 0 (i, x) (j, v) rfl rfl
      simp only at hij hx
      subst hij
      simp only [fillA] at h
      cases hpl : pl i with
      | none => simp [hpl] at h
      | some q =>
        obtain ⟨off, sz⟩ := q
        cases hc : cellsOf x with
        | none => simp [hpl, hc] at h
        | some cx =>
          simp only [hpl, hc] at h
          cases hle : lenIs cx sz with
          | false => simp [hle] at h
          | true =>
            simp only [hle, cond_true] at h
            cases hst : setc l off cx with
            | none => simp [hst] at h
            | some l1 =>
              simp only [hst] at h
              obtain ⟨hsx, _⟩ := cellsOf_ok hc hx
              have hlen := lenIs_ok cx sz hle hsx
              obtain ⟨hb, hs1⟩ := setc_ok l off cx hst hs hsx
              have hsz : v.cells.size = sz := by simpa using hlen
              have hb' : off + v.cells.size ≤ cs.size := by simpa using hb
              have hf := foldl_set off v.cells.toList 0 cs (by simpa using hb')
              have ih := fillA_ok (c := c) pl r vr (l := l1) (cs := v.cells.zipIdx.foldl (fun (cs : Array Value) (p : Value × Nat) => cs.setIfInBounds (off + p.2) p.1) cs) h
                (by
                  rw [← Array.foldl_toList, Array.toList_zipIdx]
                  rw [hf]
                  simpa using hs1)
                (by simpa using hl) (fun k p u hk hu => hp (k + 1) p u (by simpa using hk) (by simpa using hu))
              obtain ⟨cs', hfill, hs'⟩ := ih
              refine ⟨cs', ?_, hs'⟩
              simp only [Instr.fill, hpl]
              rw [if_neg (by simp [hsz]; omega)]
              exact hfill

theorem good_build (t : TypeId) (parts : Array (Nat × Operand)) (hop : o.op = .build t parts) (i : TI) (hi : TIok P t i) (z : Value) (hz : i.ze = some z) (pl : Nat → Option (Nat × Nat))
    (hpl : ∀ cs, Instr.fill pl z.cells (parts.map fun (i, x) => (i, a.eval x)).toList = some cs → P.built t (parts.map fun (i, x) => (i, a.eval x)).toList = some cs)
    (hx : ∀ p ∈ parts.toList, sat (ρ p.2) c [a.eval p.2]) : GoodR P W0 X N c fr hp nx a o (lift (fillA pl (ofValues z.cells.toList) (parts.toList.map fun p => (p.1, ρ p.2))) fun l => .ok (.agg l)) := by
  refine lift_good fun l hl => ?_
  obtain ⟨cs, hf, hs⟩ := fillA_ok (c := c) pl _ (parts.map fun (i, x) => (i, a.eval x)).toList hl (cs := z.cells) (ofValues_ok c _) (by simp) (fun k p v hk hv => by
    simp only [List.getElem?_map, Option.map_eq_some_iff, Array.toList_map] at hk hv
    obtain ⟨q, hq, rfl⟩ := hk
    obtain ⟨q', hq', rfl⟩ := hv
    rw [hq] at hq'; injection hq' with hq'; subst hq'
    exact ⟨rfl, hx q (List.mem_of_getElem? hq)⟩)
  refine ⟨.agg cs, ?_, cs, rfl, hs⟩
  unfold execOp; rw [hop]
  simp only [Sem.run_bind, run_build c.w t _ cs (hpl cs hf), Result.andThen_ok]
  rfl

theorem built_struct {t : TypeId} {i : TI} (hi : TIok P t i) (hk : i.kd = 1) {z : Value} (hz : i.ze = some z) {vals : List (Nat × Value)} {cs : Array Value} (h : Instr.fill (i.pl[·]?) z.cells vals = some cs) : P.built t vals = some cs := by
  obtain ⟨fs, hu, _, hpl⟩ := hi.st hk
  have hze := hi.ze z hz
  cases hq : P.info? t with
  | none => simp [hq] at hze
  | some ti =>
    simp [hq] at hze
    simp only [Program.built, hq, hu, hze, hpl]
    simpa using h

theorem built_array {t : TypeId} {i ie : TI} (hi : TIok P t i) (hk : i.kd = 2) (hie : TIok P i.el ie) {z : Value} (hz : i.ze = some z) {vals : List (Nat × Value)} {cs : Array Value} (h : Instr.fill (fun j => some (j * ie.sz, ie.sz)) z.cells vals = some cs) : P.built t vals = some cs := by
  have hu := hi.ar hk
  have hze := hi.ze z hz
  have hsz := hie.sz
  cases hq : P.info? t with
  | none => simp [hq] at hze
  | some ti =>
    cases hq2 : P.info? i.el with
    | none => simp [hq2] at hsz
    | some tie =>
      simp [hq] at hze
      simp [hq2] at hsz
      simp only [Program.built, hq, hu, hze, hq2, hsz]
      exact h

end

end Go.Proofs.Ythlkhjfilfdpiaa.Eng
