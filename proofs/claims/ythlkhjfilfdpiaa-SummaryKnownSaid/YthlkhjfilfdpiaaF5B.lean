/- ENGINE 2, 5B: equality, slices, copies, lengths, conversions, calls. -/
import Derived.Test.YthlkhjfilfdpiaaF5
namespace Go.Proofs.Ythlkhjfilfdpiaa.Eng
set_option linter.unusedVariables false
set_option linter.unusedSimpArgs false
open Go Go.RowKit

section
variable {P : Program} {E : Env} {W0 : World} {X : Bd} {N : Nat} {c : Cx} {fr : Fr} {hp : List AO} {nx : Nat} {a : Act} {o : Oper} {ρ : Operand → AV}

/-! ### Equality -/
theorem leafQ_ok {t : Nat} {x y : AV} {b : Bool} (h : leafQ t x y = some b) {vx vy : Value} (hx : sat x c [vx]) (hy : sat y c [vy]) : leafV t vx vy = some b := by
  unfold leafQ at h
  split at h
  · simp only [sat, List.cons.injEq, and_true] at hx hy
    subst hx hy
    exact h
  · simp only [sat, List.cons.injEq, and_true] at hx hy
    subst hx hy
    exact h
  · simp only [sat, List.cons.injEq, and_true] at hx hy
    subst hx hy
    exact h
  · cases h
theorem eqQ_ok : ∀ (ts : List Nat) {x y : AV} {b : Bool} {xs ys : List Value}, eqQ ts x y = some b → sat x c xs → sat y c ys → eqV ts xs ys = some b
  | [], x, y, b, xs, ys, h, hx, hy => by
    unfold eqQ at h
    split at h
    · have e1 : xs = [] := hx
      have e2 : ys = [] := hy
      subst e1 e2
      exact h
    · rename_i h1; cases h1
    · cases h
  | t :: ts, x, y, b, xs, ys, h, hx, hy => by
    unfold eqQ at h
    split at h
    · rename_i h1; cases h1
    · rename_i t' ts' a x' b' y' h1
      injection h1 with h1 h2
      subst h1 h2
      split at h
      · rename_i p q hp hq
        obtain ⟨v, r, rfl, hv, hr⟩ := hx
        obtain ⟨v', r', rfl, hv', hr'⟩ := hy
        simp only [eqV, leafQ_ok hp hv hv', eqQ_ok ts hq hr hr']
        exact h
      · cases h
    · cases h

theorem okv_bin {op : BinOp} {t t' : TypeId} {x y : Operand} (hop : o.op = .binOp op t x y t') {vx vy : Value} (hx : a.eval x = vx) (hy : a.eval y = vy) {v : Value} (hr : (do eqGuard op t x y vx vy; binOp op t vx vy : Sem Value).run P c.w = .ok v c.w) : OKv P c a o (.v v) := by
  refine ⟨v, ?_, rfl⟩
  unfold execOp; rw [hop]
  simp only [hx, hy]
  rw [Sem.run_bind, hr]; rfl

theorem good_eqR {op : BinOp} {b : Option Bool} (h : ∀ q, b = some q → op = .eql → OKv P c a o (.v (.bool q))) (h' : ∀ q, b = some q → op = .neq → OKv P c a o (.v (.bool (!q)))) : GoodR P W0 X N c fr hp nx a o (eqR op b) := by
  unfold eqR
  split
  · exact h _ rfl rfl
  · exact h' _ rfl rfl
  · trivial

theorem flat_bool {d : Nat} {t : TypeId} (h : flatD P d t = some [1]) (hr : (P.underlying t).map TypeDesc.isRow = some false) : P.underlying t = some .bool := by
  cases d with
  | zero => cases h
  | succ d =>
    simp only [flatD] at h
    split at h
    · cases h
    · assumption
    · cases h
    · rename_i hu _; rw [hu] at hr; cases hr
    · rename_i hu _; rw [hu] at hr; cases hr
    · cases h

theorem flat_str {d : Nat} {t : TypeId} (h : flatD P d t = some [2]) (hr : (P.underlying t).map TypeDesc.isRow = some false) : P.underlying t = some .string := by
  cases d with
  | zero => cases h
  | succ d =>
    simp only [flatD] at h
    split at h
    · cases h
    · cases h
    · assumption
    · rename_i hu _; rw [hu] at hr; cases hr
    · rename_i hu _; rw [hu] at hr; cases hr
    · cases h

theorem good_binR (hT : ∀ t i, tyOf E.ty t = some i → TIok P t i) (op : BinOp) (t t' : TypeId) (x y : Operand) (hop : o.op = .binOp op t x y t') (hx : sat (ρ x) c [a.eval x]) (hy : sat (ρ y) c [a.eval y]) :
    GoodR P W0 X N c fr hp nx a o (binR E op t (ρ x) (ρ y)) := by
  generalize hvx : ρ x = ax at hx
  generalize hvy : ρ y = ay at hy
  unfold binR
  split
  · rename_i p q
    have e1 : a.eval x = .string p := by simpa [sat] using hx
    have e2 : a.eval y = .string q := by simpa [sat] using hy
    split
    · rename_i i hi
      split
      · rename_i he hag
        have hu : P.underlying t = some .string := flat_str ((hT t i hi).eq _ he).2 (by rw [(hT t i hi).ag, hag])
        refine good_eqR (fun r hr ho => ?_) (fun r hr ho => ?_)
        · injection hr with hr; subst hr ho
          refine okv_bin hop e1 e2 ?_
          simp [eqGuard, binOp, Op.stringOp]
        · injection hr with hr; subst hr ho
          refine okv_bin hop e1 e2 ?_
          simp [eqGuard, binOp, Op.stringOp]
      · trivial
    · trivial
  · rename_i p q
    have e1 : a.eval x = .bool p := by simpa [sat] using hx
    have e2 : a.eval y = .bool q := by simpa [sat] using hy
    split
    · rename_i i hi
      split
      · rename_i he hag
        have hu : P.underlying t = some .bool := flat_bool ((hT t i hi).eq _ he).2 (by rw [(hT t i hi).ag, hag])
        refine good_eqR (fun r hr ho => ?_) (fun r hr ho => ?_)
        · injection hr with hr; subst hr ho
          refine okv_bin hop e1 e2 ?_
          simp [eqGuard, binOp, Op.equal, Op.maxDepth, run_equalIn_bool' c.w 9999 t p q hu]
        · injection hr with hr; subst hr ho
          refine okv_bin hop e1 e2 ?_
          simp [eqGuard, binOp, Op.equal, Op.maxDepth, run_equalIn_bool' c.w 9999 t p q hu]
      · trivial
    · trivial
  · exact good_bin op t t' x y hop (by simpa [sat] using hx) (by simpa [sat] using hy)
  · rename_i l m
    split
    · rename_i i hi
      split
      · rename_i ks he
        cases hag : i.ag with
        | false => trivial
        | true =>
          simp only [cond_true]
          obtain ⟨xs, e1, hxs⟩ := hx
          obtain ⟨ys, e2, hys⟩ := hy
          have e1' : a.eval x = .agg xs := by simpa using e1
          have e2' : a.eval y = .agg ys := by simpa using e2
          obtain ⟨hg, hf⟩ := (hT t i hi).eq ks he
          have hr : (P.underlying t).map TypeDesc.isRow = some true := by rw [(hT t i hi).ag, hag]
          have key : ∀ q, eqQ ks l m = some q → (Op.equalIn 10000 t (.agg xs) (.agg ys)).run P c.w = .ok q c.w := fun q hq => flat_eq hf (by omega) hr (eqQ_ok ks hq hxs hys) c.w
          refine good_eqR (fun q hq ho => ?_) (fun q hq ho => ?_)
          · subst ho
            refine okv_bin hop e1' e2' ?_
            rw [Sem.run_bind, run_eqGuard_agg _ _ _ _ _ _ _ hg, Result.andThen_ok, run_eql_struct, key q hq, Result.andThen_ok]
          · subst ho
            refine okv_bin hop e1' e2' ?_
            rw [Sem.run_bind, run_eqGuard_agg _ _ _ _ _ _ _ hg, Result.andThen_ok, run_neq_struct, key q hq, Result.andThen_ok]
      · trivial
    · trivial
  · trivial

/-! ### Conversions, functions -/
theorem good_convert (hT : ∀ t i, tyOf E.ty t = some i → TIok P t i) (s t : TypeId) (x : Operand) (hop : o.op = .convert s t x) {is i : TI} (his : TIok P s is) (hi : TIok P t i) {k0 : IntKind} {z : Int} (hx : a.eval x = .int k0 z) {k : IntKind} (hk : i.ik = some k) :
    OKv P c a o (.v (.int k (k.wrap z))) := by
  refine ⟨_, ?_, rfl⟩
  have hu := hi.ik k hk
  have hsu := his.ag
  cases hq : P.underlying s with
  | none => simp [hq] at hsu
  | some d =>
    unfold execOp; rw [hop]
    simp only [hx, Sem.run_bind, convert, run_underlying hu, run_underlying hq, Result.andThen_ok]
    cases d <;> simp [Conv.intToInt]

theorem sat_list (l : List Operand) (h : ∀ p ∈ l, sat (ρ p) c [a.eval p]) : sat (l.foldr (fun x l => .cons (ρ x) l) .nil) c (l.map a.eval) := by
  induction l with
  | nil => exact rfl
  | cons p l ih => exact ⟨a.eval p, l.map a.eval, rfl, h p (by simp), ih fun q hq => h q (by simp [hq])⟩
theorem sat_app : ∀ (x : AV) {y : AV} {xs ys : List Value}, (∃ n, lenIs x n = true) → sat x c xs → sat y c ys → sat (appA x y) c (xs ++ ys)
  | .nil, y, xs, ys, _, hx, hy => by
    have : xs = [] := hx
    subst this
    exact hy
  | .cons v l, y, xs, ys, ⟨n, hn⟩, ⟨q, r, e, h1, h2⟩, hy => by
    subst e
    cases n with
    | zero => cases hn
    | succ n => exact ⟨q, r ++ ys, rfl, h1, sat_app l ⟨n, hn⟩ h2 hy⟩
  | .u, _, _, _, ⟨n, h⟩, _, _ => by cases n <;> cases h
  | .v _, _, _, _, ⟨n, h⟩, _, _ => by cases n <;> cases h
  | .agg _, _, _, _, ⟨n, h⟩, _, _ => by cases n <;> cases h
  | .tup _, _, _, _, ⟨n, h⟩, _, _ => by cases n <;> cases h
  | .fn _ _, _, _, _, ⟨n, h⟩, _, _ => by cases n <;> cases h
  | .gd _ _, _, _, _, ⟨n, h⟩, _, _ => by cases n <;> cases h
  | .ptr _ _, _, _, _, ⟨n, h⟩, _, _ => by cases n <;> cases h
  | .sc _ _ _ _ _, _, _, _, ⟨n, h⟩, _, _ => by cases n <;> cases h
  | .rl _ _ _, _, _, _, ⟨n, h⟩, _, _ => by cases n <;> cases h
  | .rc _ _ _, _, _, _, ⟨n, h⟩, _, _ => by cases n <;> cases h
  | .em, _, _, _, ⟨n, h⟩, _, _ => by cases n <;> cases h
  | .rp _ _ _, _, _, _, ⟨n, h⟩, _, _ => by cases n <;> cases h
  | .ow _ _ _, _, _, _, ⟨n, h⟩, _, _ => by cases n <;> cases h
  | .ws _ _ _ _, _, _, _, ⟨n, h⟩, _, _ => by cases n <;> cases h
  | .op _ _ _ _, _, _, _, ⟨n, h⟩, _, _ => by cases n <;> cases h
theorem list_len (l : List Operand) : lenIs (l.foldr (fun x l => .cons (ρ x) l) .nil) l.length = true := by
  induction l with
  | nil => rfl
  | cons p l ih => exact ih

theorem good_makeFunc (f : FuncId) (first cap : Array Operand) (hop : o.op = .makeFunc (.func f) first cap) (hf : first.isEmpty = true) (hx : ∀ p ∈ cap.toList, sat (ρ p) c [a.eval p]) :
    OKv P c a o (.fn f (cap.toList.foldr (fun x l => .cons (ρ x) l) .nil)) := by
  have hfe : first = #[] := by simpa using hf
  subst hfe
  refine ⟨.func (.func f) #[] (cap.map a.eval), ?_, cap.map a.eval, rfl, by simpa using sat_list _ hx⟩
  unfold execOp; rw [hop]
  simp [Instr.makeFunc, Sem.run_bind]

/-! ### Slices -/
theorem bnd_ok {d : Int} {v : Option Operand} {z : Int} (h : bnd d (v.map ρ) = some z) (hx : ∀ p, v = some p → sat (ρ p) c [a.eval p]) : (v = none ∧ z = d) ∨ ∃ p k, v = some p ∧ a.eval p = .int k z := by
  cases v with
  | none => injection h with h; exact .inl ⟨rfl, h.symm⟩
  | some p =>
    refine .inr ⟨p, ?_⟩
    have hp := hx p rfl
    simp only [Option.map_some, bnd] at h
    generalize ρ p = q at h hp
    unfold bndV at h
    split at h
    · injection h with h; subst h
      exact ⟨_, rfl, by simpa [sat] using hp⟩
    · cases h

theorem bounds_ok {isSlice : Bool} {len cap : Nat} {lo hi mx : Option Operand} {l h m : Int} (hl : bnd 0 (lo.map ρ) = some l) (hh : bnd len (hi.map ρ) = some h) (hm : bnd cap (mx.map ρ) = some m) (hmh : (mx.isNone || hi.isSome) = true)
    (hxl : ∀ p, lo = some p → sat (ρ p) c [a.eval p]) (hxh : ∀ p, hi = some p → sat (ρ p) c [a.eval p]) (hxm : ∀ p, mx = some p → sat (ρ p) c [a.eval p]) (h0 : 0 ≤ l) (h1 : l ≤ h) (h2 : h ≤ m) (h3 : m ≤ cap) (w : World) :
    (Instr.sliceBounds isSlice len cap (lo.map a.eval) (hi.map a.eval) (mx.map a.eval)).run P w = .ok (l.toNat, h.toNat, m.toNat) w := by
  have sb : ∀ (k : IntKind) (i : Int) (y : Nat) (code : BoundsCode), 0 ≤ i → i ≤ y → (Instr.sliceBound (.int k i) y code).run P w = .ok i.toNat w := fun k i y code h0 h1 => by
    simp [Instr.sliceBound, asIntOf, Sem.run_bind, h0, h1]
  unfold Instr.sliceBounds
  rcases bnd_ok hm hxm with ⟨rfl, rfl⟩ | ⟨pm, km, rfl, em⟩
  · rcases bnd_ok hh hxh with ⟨rfl, rfl⟩ | ⟨ph, kh, rfl, eh⟩
    · rcases bnd_ok hl hxl with ⟨rfl, rfl⟩ | ⟨pl, kl, rfl, el⟩
      · simp [Sem.run_bind]
      · simp [Sem.run_bind, el, sb kl l len _ h0 (by omega)]
    · rcases bnd_ok hl hxl with ⟨rfl, rfl⟩ | ⟨pl, kl, rfl, el⟩
      · simp [Sem.run_bind, eh, sb kh h cap _ (by omega) (by omega)]
      · simp [Sem.run_bind, eh, sb kh h cap _ (by omega) (by omega), el, sb kl l h.toNat _ h0 (by omega)]
  · rcases bnd_ok hh hxh with ⟨rfl, rfl⟩ | ⟨ph, kh, rfl, eh⟩
    · simp at hmh
    · rcases bnd_ok hl hxl with ⟨rfl, rfl⟩ | ⟨pl, kl, rfl, el⟩
      · simp [Sem.run_bind, em, sb km m cap _ (by omega) (by omega), eh, sb kh h m.toNat _ (by omega) (by omega)]
      · simp [Sem.run_bind, em, sb km m cap _ (by omega) (by omega), eh, sb kh h m.toNat _ (by omega) (by omega), el, sb kl l h.toNat _ h0 (by omega)]

theorem sliceBound_ok (k : IntKind) (i : Int) (y : Nat) (code : BoundsCode) (w : World) (h0 : 0 ≤ i) (h1 : i ≤ y) : (Instr.sliceBound (.int k i) y code).run P w = .ok i.toNat w := by
  simp [Instr.sliceBound, asIntOf, Sem.run_bind, h0, h1]

theorem good_slice (t : TypeId) (x : Operand) (lo hi mx : Option Operand) (hop : o.op = .slice t x lo hi mx) (i : TI) (hti : TIok P t i) (k : Nat) (te : Option Ty) (hk : ∀ w : World, i.kd = 2 ∨ i.kd = 3 → (sizeOf i.el).run P w = .ok k w)
    (hx : sat (ρ x) c [a.eval x]) (hxl : ∀ p, lo = some p → sat (ρ p) c [a.eval p]) (hxh : ∀ p, hi = some p → sat (ρ p) c [a.eval p]) (hxm : ∀ p, mx = some p → sat (ρ p) c [a.eval p]) :
    GoodR P W0 X N c fr hp nx a o (sliceR i k te (sameOp hi mx) (zeroOp hi) (lo.map ρ) (hi.map ρ) (mx.map ρ) (ρ x)) := by
  have fin : ∀ (v : AV) (y : Value), (Instr.sliceAt t (a.eval x) (lo.map a.eval) (hi.map a.eval) (mx.map a.eval)).run P c.w = .ok y c.w → sat v c [y] → OKv P c a o v := fun v y hr hv => by
    refine ⟨y, ?_, hv⟩
    unfold execOp; rw [hop]
    simp only [Sem.run_bind, hr, Result.andThen_ok, Sem.run_pure]
  have off : ∀ (b q l m : Nat), (some (if m = l then (⟨b, q, none⟩ : Addr) else (⟨b, q, none⟩ : Addr).add (l * k)) : Option Addr) = some ⟨b, bif Nat.beq m l then q else q + l * k, none⟩ := fun b q l m => by
    by_cases h : m = l
    · subst h; simp
    · simp [h, Addr.add_mid, beq_ne h]
  have rlCase : ∀ (A : Option Addr) (n cp : Nat) (q : Bool) (τ : Ty) (L : List (El τ)), n ≤ cp → n = L.length → a.eval x = .slice A n cp → qb q c.b0 = qb q c.b0 → memL c.w c.O (qb q c.b0) (tsz τ) (memE c.w c.O (qb q c.b0) τ) A L →
      GoodR P W0 X N c fr hp nx a o (bif Nat.beq i.kd 3 && Nat.beq (tsz τ) k then (match bnd 0 (lo.map ρ), bnd L.length (hi.map ρ) with
        | some l, some h => bif (mx.map ρ).isNone then .ob (0 ≤ l ∧ l ≤ h ∧ h ≤ L.length) (.rl q τ (cutL L (lo.map ρ) (hi.map ρ) l.toNat h.toNat))
          else bif sameOp hi mx then (bif zeroOp hi then .ob (l = 0 ∧ h = 0) .em else .ob (0 ≤ l ∧ l ≤ h ∧ h ≤ L.length) (.rc q τ (cutL L (lo.map ρ) (hi.map ρ) l.toNat h.toNat))) else .no
        | _, _ => .no) else .no) := by
    intro A n cp q τ L hnm hn e' _ hL
    subst hn
    cases hc : (Nat.beq i.kd 3 && Nat.beq (tsz τ) k) with
    | false => trivial
    | true =>
      simp only [Bool.and_eq_true] at hc
      simp only [cond_true]
      have hkd := Nat.eq_of_beq_eq_true hc.1
      have hkk := Nat.eq_of_beq_eq_true hc.2
      split
      · rename_i l h hl hh
        have cut : 0 ≤ l → l ≤ h → h ≤ L.length → cutL L (lo.map ρ) (hi.map ρ) l.toNat h.toNat = (L.take h.toNat).drop l.toNat := fun h0 h1 h2 => by
          unfold cutL
          cases lo with
          | none =>
            have hl0 : l = 0 := by injection hl with hl; exact hl.symm
            subst hl0
            cases hi with
            | none =>
              have : h = L.length := by injection hh with hh; exact hh.symm
              subst this; simp
            | some p => simp
          | some p' =>
            cases hi with
            | none =>
              have : h = L.length := by injection hh with hh; exact hh.symm
              subst this; simp
            | some p => simp
        have elems : 0 ≤ l → l ≤ h → h ≤ L.length → ∀ A', (A' = (if cp = l.toNat then A else A.map (·.add (l.toNat * k)))) ∨ (∃ m : Nat, h.toNat ≤ m ∧ A' = (if m = l.toNat then A else A.map (·.add (l.toNat * k)))) → memL c.w c.O (qb q c.b0) (tsz τ) (memE c.w c.O (qb q c.b0) τ) A' ((L.take h.toNat).drop l.toNat) := by
          intro h0 h1 h2 A' hA' p y hp
          have hpl : p < ((L.take h.toNat).drop l.toNat).length := (List.getElem?_eq_some_iff.1 hp).1
          simp at hpl
          rw [List.getElem?_drop, List.getElem?_take, if_pos (by omega)] at hp
          obtain ⟨ad, hA, hsp, hO, hb, hb0, cs, hcl, hr, hE⟩ := hL _ y hp
          have : A' = A.map (·.add (l.toNat * k)) := by
            rcases hA' with e | ⟨m, hm, e⟩
            · rw [e, if_neg (by omega)]
            · rw [e, if_neg (by omega)]
          obtain ⟨b, p0, sp⟩ := ad
          simp only at hsp hO hb hr hb0
          subst hsp
          subst hA
          refine ⟨⟨b, p0 + l.toNat * k, none⟩, by rw [this]; simp [Addr.add_mid], rfl, hO, hb, hb0, cs, hcl, ?_, hE⟩
          rw [show p0 + l.toNat * k + p * tsz τ = p0 + (l.toNat + p) * tsz τ by rw [hkk, Nat.add_mul]; omega]
          exact hr
        cases hmx : mx with
        | none =>
          subst hmx
          simp only [Option.map_none, Option.isNone_none, cond_true]
          rintro ⟨h0, h1, h2⟩
          have hb := bounds_ok (isSlice := true) (len := L.length) (cap := cp) (a := a) (mx := none) (m := cp) hl hh rfl rfl hxl hxh hxm h0 h1 (by omega) (by omega) c.w (P := P)
          rw [cut h0 h1 h2]
          refine fin _ (.slice (if cp = l.toNat then A else A.map (·.add (l.toNat * k))) (h.toNat - l.toNat) (cp - l.toNat)) ?_ ⟨_, cp - l.toNat, by rw [List.length_drop, List.length_take, Nat.min_eq_left (by omega)], by simp; omega, elems h0 h1 h2 _ (.inl rfl)⟩
          simp only [Option.map_none] at hb
          simp only [Instr.sliceAt, Sem.run_bind, run_underlying (hti.sl hkd), Result.andThen_ok, e', Instr.slice, Option.map_none, hb, hk c.w (.inr hkd), Sem.run_pure, Int.toNat_natCast]
        | some pm =>
          subst hmx
          simp only [Option.map_some, Option.isNone_some, cond_false]
          cases hs : sameOp hi (some pm) with
          | false => trivial
          | true =>
            simp only [cond_true]
            have main : 0 ≤ l → l ≤ h → h ≤ L.length → OKv P c a o (.rc q τ (cutL L (lo.map ρ) (hi.map ρ) l.toNat h.toNat)) := by
             intro h0 h1 h2
             obtain ⟨ph, rfl, hpp⟩ : ∃ ph, hi = some ph ∧ ∀ k z, a.eval ph = .int k z → ∃ k', a.eval pm = .int k' z := by
               unfold sameOp at hs
               split at hs
               · rename_i s1 s2 x1 x2 e2
                 injection e2 with e2; subst e2
                 have := Nat.eq_of_beq_eq_true hs
                 subst this
                 exact ⟨_, rfl, fun k z e => ⟨k, e⟩⟩
               · rename_i s1 s2 k1 x1 k2 x2 e2
                 injection e2 with e2; subst e2
                 have := of_decide_eq_true hs
                 subst this
                 exact ⟨_, rfl, fun k z e => ⟨k2, by injection e with e e'; subst e'; rfl⟩⟩
               · cases hs
             rcases bnd_ok hh hxh with ⟨e1, _⟩ | ⟨ph', kh, e1, eh⟩
             · cases e1
             · injection e1 with e1; subst e1
               obtain ⟨km, em⟩ := hpp _ _ eh
               have hb : (Instr.sliceBounds true L.length cp (lo.map a.eval) (some (a.eval ph)) (some (a.eval pm))).run P c.w = .ok (l.toNat, h.toNat, h.toNat) c.w := by
                 unfold Instr.sliceBounds
                 rcases bnd_ok hl hxl with ⟨rfl, rfl⟩ | ⟨pl, kl, rfl, el⟩
                 · simp [Sem.run_bind, em, eh, sliceBound_ok km h cp _ c.w (by omega) (by omega), sliceBound_ok kh h h.toNat _ c.w (by omega) (by omega)]
                 · simp [Sem.run_bind, em, eh, el, sliceBound_ok km h cp _ c.w (by omega) (by omega), sliceBound_ok kh h h.toNat _ c.w (by omega) (by omega), sliceBound_ok kl l h.toNat _ c.w h0 (by omega)]
               rw [cut h0 h1 h2]
               refine fin _ (.slice (if h.toNat = l.toNat then A else A.map (·.add (l.toNat * k))) (h.toNat - l.toNat) (h.toNat - l.toNat)) ?_ ⟨_, by rw [List.length_drop, List.length_take, Nat.min_eq_left (by omega)], elems h0 h1 h2 _ (.inr ⟨h.toNat, Nat.le_refl _, rfl⟩)⟩
               simp only [Instr.sliceAt, Sem.run_bind, run_underlying (hti.sl hkd), Result.andThen_ok, e', Instr.slice, Option.map_some, hb, hk c.w (.inr hkd), Sem.run_pure, Int.toNat_natCast]
            cases hz : zeroOp hi with
            | false =>
              simp only [cond_false]
              rintro ⟨h0, h1, h2⟩
              exact main h0 h1 h2
            | true =>
              simp only [cond_true]
              rintro ⟨h0, h1⟩
              obtain ⟨y, hy, A', e, hL'⟩ := main (by omega) (by omega) (by omega)
              refine ⟨y, hy, A', ?_⟩
              rw [e, cut (by omega) (by omega) (by omega)]
              subst h0 h1
              rfl
      · trivial
  generalize ρ x = r at hx
  cases r with
  | ptr j q =>
    simp only [sliceR, cutR_eq]
    cases hc : (Nat.beq i.kd 2 && ((mx.map ρ).isNone || (hi.map ρ).isSome)) with
    | false => trivial
    | true =>
      simp only [Bool.and_eq_true] at hc
      simp only [cond_true]
      split
      · rename_i l h m hl hh hm
        rintro ⟨h0, h1, h2, h3⟩
        obtain ⟨hj, b, hb, e⟩ := hx
        have e' : a.eval x = .pointer (some ⟨b, q, none⟩) := by simpa using e
        have hkd := Nat.eq_of_beq_eq_true hc.1
        refine fin _ (.slice (some ⟨b, bif Nat.beq m.toNat l.toNat then q else q + l.toNat * k, none⟩) (h.toNat - l.toNat) (m.toNat - l.toNat)) ?_ ⟨hj, b, hb, rfl⟩
        simp only [Instr.sliceAt, Sem.run_bind, run_underlying (hti.ar hkd), Result.andThen_ok, e', Instr.sureAddr, Sem.run_pure,
          bounds_ok hl hh hm (by simpa using hc.2) hxl hxh hxm h0 h1 h2 h3 c.w, hk c.w (.inl hkd), off]
      · trivial
  | sc j q n cp τ =>
    simp only [sliceR, cutR_eq]
    cases hc : (Nat.beq i.kd 3 && ((mx.map ρ).isNone || (hi.map ρ).isSome)) with
    | false => trivial
    | true =>
      simp only [Bool.and_eq_true] at hc
      simp only [cond_true]
      split
      · rename_i l h m hl hh hm
        rintro ⟨h0, h1, h2, h3⟩
        obtain ⟨hj, b, hb, e⟩ := hx
        have e' : a.eval x = .slice (some ⟨b, q, none⟩) n cp := by simpa using e
        have hkd := Nat.eq_of_beq_eq_true hc.1
        refine fin _ (.slice (some ⟨b, bif Nat.beq m.toNat l.toNat then q else q + l.toNat * k, none⟩) (h.toNat - l.toNat) (m.toNat - l.toNat)) ?_ ⟨hj, b, hb, rfl⟩
        have hmap : (if m.toNat = l.toNat then some (⟨b, q, none⟩ : Addr) else Option.map (fun ad : Addr => ad.add (l.toNat * k)) (some ⟨b, q, none⟩)) = some ⟨b, bif Nat.beq m.toNat l.toNat then q else q + l.toNat * k, none⟩ := by
          rw [← off]; split <;> rfl
        simp only [Instr.sliceAt, Sem.run_bind, run_underlying (hti.sl hkd), Result.andThen_ok, e', Instr.slice,
          bounds_ok hl hh hm (by simpa using hc.2) hxl hxh hxm h0 h1 h2 h3 c.w, hk c.w (.inr hkd), hmap, Sem.run_pure]
      · trivial
  | rl q τ L =>
    obtain ⟨A, cp, e, hnm, hL⟩ := hx
    simp only [sliceR, cutR_eq]
    exact rlCase A L.length cp q τ L hnm rfl (by simpa using e) rfl hL
  | rc q τ L =>
    obtain ⟨A, e, hL⟩ := hx
    simp only [sliceR, cutR_eq]
    exact rlCase A L.length L.length q τ L (Nat.le_refl _) rfl (by simpa using e) rfl hL
  | ow j k' n =>
    simp only [sliceR, cutR_eq]
    cases hc : (Nat.beq i.kd 3 && Nat.beq k' k && (mx.map ρ).isNone) with
    | false => trivial
    | true =>
      simp only [Bool.and_eq_true] at hc
      simp only [cond_true]
      split
      · rename_i l h hl hh
        rintro ⟨h0, h1, h2⟩
        obtain ⟨hj, hn, e, A, cp, hv, hnm⟩ := hx
        have e' : a.eval x = .slice A n cp := by rw [← hv]; simpa using e
        have hkd := Nat.eq_of_beq_eq_true hc.1.1
        have hmx : mx = none := by simpa using hc.2
        have hb := bounds_ok (isSlice := true) (len := n) (cap := cp) (a := a) (mx := mx) (m := cp) hl hh (by rw [hmx]; rfl) (by rw [hmx]; rfl) hxl hxh hxm h0 h1 (by omega) (by omega) c.w (P := P)
        refine fin _ (.slice (if cp = l.toNat then A else A.map (·.add (l.toNat * k))) (h.toNat - l.toNat) (cp - l.toNat)) ?_ ⟨hj, by omega, A, cp, _, by rw [← hn]; exact hv, by omega, fun hp => if_neg (by omega), rfl⟩
        simp only [Instr.sliceAt, Sem.run_bind, run_underlying (hti.sl hkd), Result.andThen_ok, e', Instr.slice, hb, hk c.w (.inr hkd), Sem.run_pure, Int.toNat_natCast]
      · trivial
  | ws j k' lo' n =>
    simp only [sliceR, cutR_eq]
    cases hc : (Nat.beq i.kd 3 && Nat.beq k' k && (mx.map ρ).isNone) with
    | false => trivial
    | true =>
      simp only [Bool.and_eq_true] at hc
      simp only [cond_true]
      split
      · rename_i l h hl hh
        rintro ⟨h0, h1, h2⟩
        obtain ⟨hj, hn, A, cp, A', hv, hnm, hA', e⟩ := hx
        have hkk := Nat.eq_of_beq_eq_true hc.1.2
        subst hkk
        have e' : a.eval x = .slice A' n (cp - lo') := by simpa using e
        have hkd := Nat.eq_of_beq_eq_true hc.1.1
        have hmx : mx = none := by simpa using hc.2
        have hb := bounds_ok (isSlice := true) (len := n) (cap := cp - lo') (a := a) (mx := mx) (m := ((cp - lo' : Nat) : Int)) hl hh (by rw [hmx]; rfl) (by rw [hmx]; rfl) hxl hxh hxm h0 h1 (by omega) (by omega) c.w (P := P)
        refine fin _ (.slice (if cp - lo' = l.toNat then A' else A'.map (·.add (l.toNat * k'))) (h.toNat - l.toNat) (cp - lo' - l.toNat)) ?_ ⟨hj, by omega, A, cp, _, hv, hnm, fun hp => ?_, by rw [Nat.sub_sub]⟩
        · simp only [Instr.sliceAt, Sem.run_bind, run_underlying (hti.sl hkd), Result.andThen_ok, e', Instr.slice, hb, hk c.w (.inr hkd), Sem.run_pure, Int.toNat_natCast]
        · rw [if_neg (by omega), hA' (by omega)]
          obtain ⟨b, rfl⟩ := c.at0 j _ _ _ hv (by omega)
          simp [Addr.add_mid, Nat.add_mul]
      · trivial
  | v y =>
    cases y with
    | string s =>
      simp only [sliceR, cutR_eq]
      cases hc : (Nat.beq i.kd 5 && (mx.map ρ).isNone) with
      | false => trivial
      | true =>
        simp only [Bool.and_eq_true] at hc
        simp only [cond_true]
        split
        · rename_i l h hl hh
          rintro ⟨h0, h1, h2⟩
          have e' : a.eval x = .string s := by simpa [sat] using hx
          have hkd := Nat.eq_of_beq_eq_true hc.1
          have hmx : mx = none := by simpa using hc.2
          refine fin _ _ ?_ rfl
          have := bounds_ok (isSlice := false) (len := s.size) (cap := s.size) (a := a) (mx := mx) (m := s.size) hl hh (by rw [hmx]; rfl) (by rw [hmx]; rfl) hxl hxh hxm h0 h1 (by omega) (by omega) c.w (P := P)
          rw [hmx] at this ⊢
          simp only [Option.map_none] at this ⊢
          simp only [Instr.sliceAt, Sem.run_bind, run_underlying (hti.tx hkd), Result.andThen_ok, e', Instr.slice, this, Sem.run_pure, Option.isSome_none, Bool.false_eq_true, if_false]
        · trivial
    | slice A n cp =>
      cases A with
      | some ad => trivial
      | none =>
        simp only [sliceR, cutR_eq]
        cases hc : (Nat.beq i.kd 3 && (mx.map ρ).isNone && Nat.beq n 0 && Nat.beq cp 0) with
        | false => trivial
        | true =>
          simp only [Bool.and_eq_true] at hc
          simp only [cond_true]
          split
          · rename_i l h hl hh
            rintro ⟨h0, h1⟩
            have e' : a.eval x = .slice none n cp := by simpa [sat] using hx
            have hkd := Nat.eq_of_beq_eq_true hc.1.1.1
            have hn := Nat.eq_of_beq_eq_true hc.1.2
            have hcp := Nat.eq_of_beq_eq_true hc.2
            subst h0 h1 hn hcp
            have hmx : mx = none := by simpa using hc.1.1.2
            have hb := bounds_ok (isSlice := true) (len := 0) (cap := 0) (a := a) (mx := mx) (m := 0) hl hh (by rw [hmx]; rfl) (by rw [hmx]; rfl) hxl hxh hxm (by omega) (by omega) (by omega) (by omega) c.w (P := P)
            refine fin _ (.slice none 0 0) ?_ rfl
            simp [Instr.sliceAt, Sem.run_bind, run_underlying (hti.sl hkd), Result.andThen_ok, e', Instr.slice, hb, hk c.w (.inr hkd), Sem.run_pure]
          · trivial
    | _ => trivial
  | _ => trivial

/-! ### Built-in functions -/
theorem run_builtin {cl : Call} {b : Builtin} (hop : o.op = .call cl) (hb : cl.callee = .builtin b) {w w' : World} {v : Value} (h : (builtin b cl.argTypes o.type (cl.args.map fun | .const _ => true | _ => false) (cl.args.map a.eval)).run P w = .ok (.value v) w') :
    (execOp a.eval o).run P w = .ok (.value v) w' := by
  unfold execOp; rw [hop]
  simp only [Sem.run_bind, resolve, hb, Sem.run_pure, Result.andThen_ok, invoke]
  exact h

theorem setR_ok (h : Gam W0 X N c fr hp nx a) {j q : Nat} {l c0 v : AV} (hj : getAO hp j = .cells l) {b : Nat} (hjn : j < c.n) (hk : c.loc j = some b) {cs : List Value} (hcs : sat c0 c cs) (y : Value) (hv : v = .v y)
    (hrun : ∀ (cur : Array Value) (t : TypeId), c.w.heap[b]? = some (.cells cur t (0, 0)) → q + cs.length ≤ cur.size → (∀ v ∈ cs, v.oneCell' = true) → (execOp a.eval o).run P c.w = .ok (.value y) (c.w.setRow b (cur.toList.take q ++ cs ++ cur.toList.drop (q + cs.length)).toArray)) :
    GoodR P W0 X N c fr hp nx a o (setR j l q c0 v) := by
  unfold setR
  cases hone : ones c0 with
  | false => trivial
  | true =>
    simp only [cond_true]
    cases hst : setc l q c0 with
    | none => trivial
    | some l' =>
      intro hjl
      obtain ⟨b', cur, ty, hk', hkey, hh, hs⟩ := h.o j _ (getAO_at hj (by simp))
      rw [hk] at hk'; injection hk' with hk'; subst hk'
      obtain ⟨hle, hs2⟩ := setc_ok l q c0 hst hs hcs
      obtain ⟨hg, _⟩ := h.setW (w' := c.w.setRow b (cur.toList.take q ++ cs ++ cur.toList.drop (q + cs.length)).toArray) (ob := .cells l') hjn hkey (size_setRow _ _ _) (fun k hkb => setRow_other _ _ _ _ hkb) rfl rfl rfl
        (fun st => ⟨b, _, ty, hk, hkey, setRow_heap c.w b cur _ ty _ hh, by simpa using sat_step _ st hs2⟩)
      refine ⟨y, _, ?_, hg, by rw [hv]; rfl⟩
      exact hrun cur ty hh (by simpa using hle) (ones_ok c0 hone hcs)
theorem run_copy {ts : Array TypeId} {t ty el : TypeId} {ts' : List TypeId} (hts : ts.toList = t :: ts') (hu : P.underlying t = some (.slice el)) {k : Nat} (w : World) (hk : (sizeOf el).run P w = .ok k w) {b q n m n' : Nat} {src : Value} (hl : (Builtin.lenOf src).run P w = .ok n' w)
    {cs : List Value} (hc : (Builtin.firstCells k (Nat.min n' n) src).run P w = .ok cs.toArray w) {cur : Array Value} {ct : TypeId} (hh : w.heap[b]? = some (.cells cur ct (0, 0))) (hle : q + cs.length ≤ cur.size) (hone : ∀ v ∈ cs, v.oneCell' = true) :
    (Builtin.copy_ ts ty #[.slice (some ⟨b, q, none⟩) n m, src]).run P w = .ok (.int .i64 (Nat.min n' n)) (w.setRow b (cur.toList.take q ++ cs ++ cur.toList.drop (q + cs.length)).toArray) := by
  have ht : ts[0]? = some t := by rw [← Array.getElem?_toList, hts]; rfl
  have hst := run_storeCells_at (P := P) b q ct cs 0 cur w hh (by simpa using hle) hone
  unfold Builtin.copy_
  simp only [ht, Sem.run_bind, run_underlying hu, Result.andThen_ok, hl, hk, hc, goInt]
  simp only [List.getElem?_toArray, List.getElem?_cons_zero, List.getElem?_cons_succ, Sem.run_bind, run_underlying hu, Result.andThen_ok, hl, hk, hc, hst, Sem.run_pure, Nat.add_zero]

theorem good_copy (h : Gam W0 X N c fr hp nx a) {cl : Call} (hop : o.op = .call cl) (hb : cl.callee = .builtin .copy) {t : TypeId} {ts : List TypeId} (hts : cl.argTypes.toList = t :: ts) {i ie : TI} (hi : TIok P t i) (hk : i.kd = 3) (hie : TIok P i.el ie) {x y : AV} {vx vy : Value} (hargs : cl.args.map a.eval = #[vx, vy]) (hx : sat x c [vx]) (hy : sat y c [vy]) :
    GoodR P W0 X N c fr hp nx a o (copyR hp ie.sz x y) := by
  have go : ∀ (b q n m n' j : Nat) (l c0 : AV) (cs : List Value), vx = .slice (some ⟨b, q, none⟩) n m → j < c.n → c.loc j = some b → getAO hp j = .cells l → (Builtin.lenOf vy).run P c.w = .ok n' c.w → (Builtin.firstCells ie.sz (Nat.min n' n) vy).run P c.w = .ok cs.toArray c.w → sat c0 c cs →
      GoodR P W0 X N c fr hp nx a o (setR j l q c0 (.v (.int .i64 (Nat.min n' n)))) := by
    intro b q n m n' j l c0 cs e1 hj hkey hjl hlen hfirst hcs
    refine setR_ok h hjl hj hkey hcs _ rfl fun cur ct hh hle hone => ?_
    refine run_builtin hop hb ?_
    rw [hargs, e1]
    simp only [builtin, Sem.run_bind, run_copy (ty := o.type) hts (hi.sl hk) c.w (run_sizeOf hie c.w) hlen hfirst hh hle hone, Result.andThen_ok, Sem.run_pure]
  cases x with
  | sc j q n m τ =>
    obtain ⟨hj, b, hkey, e1⟩ := hx
    have e1' : vx = .slice (some ⟨b, q, none⟩) n m := by simpa using e1
    cases y with
    | sc i' q' n' m' τ' =>
      have hy' := hy
      obtain ⟨hi', b', hkey', e2⟩ := hy
      have e2' : vy = .slice (some ⟨b', q', none⟩) n' m' := by simpa using e2
      simp only [copyR]
      split
      · rename_i li lj hli hlj
        split
        · rename_i cc hcc
          obtain ⟨b2, cs, ct, hk2, _, hh, hs⟩ := h.o i' _ (getAO_at hli (by simp))
          rw [hkey'] at hk2; injection hk2 with hk2; subst hk2
          obtain ⟨hle, hsp⟩ := part_ok li q' _ hcc hs
          have hr : c.w.rangeAt b' q' ((cs.toList.drop q').take (Nat.min n' n * ie.sz)) := fun p v hp => by
            rw [List.getElem?_take] at hp
            split at hp
            · simp [World.cell?, hh]
              simpa [List.getElem?_drop] using hp
            · cases hp
          refine go b q n m n' j lj cc ((cs.toList.drop q').take (Nat.min n' n * ie.sz)) e1' hj hkey hlj (by rw [e2']; rfl) ?_ hsp
          rw [e2']
          have hlc := run_loadCells_list (P := P) c.w (⟨b', q', none⟩ : Addr) _ (fun k v hv => by rw [Addr.add_mid]; exact hr k v hv)
          have hln : ((cs.toList.drop q').take (Nat.min n' n * ie.sz)).length = Nat.min n' n * ie.sz := by simp at hle ⊢; omega
          rw [hln] at hlc
          simpa [Builtin.firstCells] using hlc
        · trivial
      · trivial
    | _ => trivial
  | _ => cases y <;> trivial

theorem good_len {cl : Call} (hop : o.op = .call cl) (hb : cl.callee = .builtin .len) {t : TypeId} {ts : List TypeId} (hts : cl.argTypes.toList = t :: ts) {i : TI} (hi : TIok P t i) {x : AV} {vx : Value} (hargs : cl.args.map a.eval = #[vx]) (hx : sat x c [vx]) :
    GoodR P W0 X N c fr hp nx a o (lenR i x) := by
  have ht : cl.argTypes[0]? = some t := by rw [← Array.getElem?_toList, hts]; rfl
  have go : ∀ (d : TypeDesc) (n : Nat), P.underlying t = some d → (∀ w, (Builtin.len_ cl.argTypes o.type #[vx]).run P w = .ok (goInt n) w) → OKv P c a o (.v (.int .i64 n)) := fun d n hu hr => by
    refine ⟨.int .i64 n, ?_, rfl⟩
    refine run_builtin hop hb ?_
    rw [hargs]
    simp only [builtin, Sem.run_bind, hr, Result.andThen_ok, Sem.run_pure, goInt]
  have sl : ∀ (A : Option Addr) (n m : Nat), i.kd = 3 → vx = .slice A n m → OKv P c a o (.v (.int .i64 n)) := fun A n m hk e => by
    refine go _ n (hi.sl hk) fun w => ?_
    simp [Builtin.len_, ht, e, run_underlying (hi.sl hk), Sem.run_bind]
  unfold lenR
  split
  · rename_i q τ l
    cases hk : Nat.beq i.kd 3 with
    | false => trivial
    | true =>
      obtain ⟨A, cp, e2, _⟩ := hx
      exact sl A _ cp (Nat.eq_of_beq_eq_true hk) (by simpa using e2)
  · rename_i q τ l
    cases hk : Nat.beq i.kd 3 with
    | false => trivial
    | true =>
      obtain ⟨A, e2, _⟩ := hx
      exact sl A _ _ (Nat.eq_of_beq_eq_true hk) (by simpa using e2)
  · cases hk : Nat.beq i.kd 3 with
    | false => trivial
    | true =>
      obtain ⟨A, e2⟩ := hx
      exact sl A 0 0 (Nat.eq_of_beq_eq_true hk) (by simpa using e2)
  · rename_i j k n
    cases hk : Nat.beq i.kd 3 with
    | false => trivial
    | true =>
      obtain ⟨_, _, e2, A, m, hv, _⟩ := hx
      rw [hv] at e2
      exact sl A n m (Nat.eq_of_beq_eq_true hk) (by simpa using e2)
  · rename_i j k lo n
    cases hk : Nat.beq i.kd 3 with
    | false => trivial
    | true =>
      obtain ⟨_, _, A, m, A', _, _, _, e2⟩ := hx
      exact sl _ n _ (Nat.eq_of_beq_eq_true hk) (by simpa using e2)
  · rename_i j q n m τ
    cases hk : Nat.beq i.kd 3 with
    | false => trivial
    | true =>
      obtain ⟨_, b, _, e2⟩ := hx
      exact sl _ n m (Nat.eq_of_beq_eq_true hk) (by simpa using e2)
  · rename_i A n m
    cases hk : Nat.beq i.kd 3 with
    | false => trivial
    | true => exact sl A n m (Nat.eq_of_beq_eq_true hk) (by simpa [sat] using hx)
  · rename_i s
    cases hk : Nat.beq i.kd 5 with
    | false => trivial
    | true =>
      have e : vx = .string s := by simpa [sat] using hx
      have hu := hi.tx (Nat.eq_of_beq_eq_true hk)
      refine go _ s.size hu fun w => ?_
      simp [Builtin.len_, ht, e, run_underlying hu, Sem.run_bind]
  · cases hk : Nat.beq i.kd 2 with
    | false => trivial
    | true =>
      have hu := hi.ar (Nat.eq_of_beq_eq_true hk)
      refine go _ i.ar hu fun w => ?_
      obtain ⟨cs, e, _⟩ := hx
      have e' : vx = .agg cs := by simpa using e
      simp [Builtin.len_, ht, e', run_underlying hu, Sem.run_bind]
  · trivial

theorem args_one {x : AV} {vs : Array Value} (h : sat (.cons x .nil) c vs.toList) : ∃ v, vs = #[v] ∧ sat x c [v] := by
  obtain ⟨v, r, e, h1, h2⟩ := h
  have : r = [] := h2
  subst this
  exact ⟨v, by rw [← Array.toList_inj]; exact e, h1⟩
theorem args_two {x y : AV} {vs : Array Value} (h : sat (.cons x (.cons y .nil)) c vs.toList) : ∃ v u, vs = #[v, u] ∧ sat x c [v] ∧ sat y c [u] := by
  obtain ⟨v, r, e, h1, q, r2, e2, h2, h3⟩ := h
  have : r2 = [] := h3
  subst this e2
  exact ⟨v, q, by rw [← Array.toList_inj]; exact e, h1, h2⟩
end

end Go.Proofs.Ythlkhjfilfdpiaa.Eng
