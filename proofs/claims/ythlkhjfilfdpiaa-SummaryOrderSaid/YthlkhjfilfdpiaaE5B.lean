/- ENGINE, 5B: equality, slices, copies, lengths, conversions, calls. -/
import Derived.Test.YthlkhjfilfdpiaaE5
namespace Go.Proofs.Ythlkhjfilfdpiaa.Eng
set_option linter.unusedVariables false
set_option linter.unusedSimpArgs false
open Go Go.RowKit

section
variable {P : Program} {E : Env} {W0 : World} {X : Bd} {N : Nat} {c : Cx} {fr : Fr} {hp : List AO} {nx : Nat} {a : Act} {o : Oper} {ρ : Operand → AV}

/-! ### Equality -/
theorem leafQ_ok {t : Nat} {x y : AV} {b : Bool} (h : leafQ t x y = some b) {vx vy : Value} (hx : sat x c [vx]) (hy : sat y c [vy]) : leafV t vx vy = some b := by
  unfold leafQ at h
  split at h
  · simp only [sat, List.cons.injEq, and_true] at hx hy
    subst hx hy
    exact h
  · simp only [sat, List.cons.injEq, and_true] at hx hy
    subst hx hy
    exact h
  · simp only [sat, List.cons.injEq, and_true] at hx hy
    subst hx hy
    exact h
  · cases h
theorem eqQ_ok : ∀ (ts : List Nat) {x y : AV} {b : Bool} {xs ys : List Value}, eqQ ts x y = some b → sat x c xs → sat y c ys → eqV ts xs ys = some b
  | [], x, y, b, xs, ys, h, hx, hy => by
    unfold eqQ at h
    split at h
    · have e1 : xs = [] := hx
      have e2 : ys = [] := hy
      subst e1 e2
      exact h
    · rename_i h1; cases h1
    · cases h
  | t :: ts, x, y, b, xs, ys, h, hx, hy => by
    unfold eqQ at h
    split at h
    · rename_i h1; cases h1
    · rename_i t' ts' a x' b' y' h1
      injection h1 with h1 h2
      subst h1 h2
      split at h
      · rename_i p q hp hq
        obtain ⟨v, r, rfl, hv, hr⟩ := hx
        obtain ⟨v', r', rfl, hv', hr'⟩ := hy
        simp only [eqV, leafQ_ok hp hv hv', eqQ_ok ts hq hr hr']
        exact h
      · cases h
    · cases h

theorem okv_bin {op : BinOp} {t t' : TypeId} {x y : Operand} (hop : o.op = .binOp op t x y t') {vx vy : Value} (hx : a.eval x = vx) (hy : a.eval y = vy) {v : Value} (hr : (do eqGuard op t x y vx vy; binOp op t vx vy : Sem Value).run P c.w = .ok v c.w) : OKv P c a o (.v v) := by
  refine ⟨v, ?_, rfl⟩
  unfold execOp; rw [hop]
  simp only [hx, hy]
  rw [Sem.run_bind, hr]; rfl

theorem good_eqR {op : BinOp} {b : Option Bool} (h : ∀ q, b = some q → op = .eql → OKv P c a o (.v (.bool q))) (h' : ∀ q, b = some q → op = .neq → OKv P c a o (.v (.bool (!q)))) : GoodR P W0 X N c fr hp nx a o (eqR op b) := by
  unfold eqR
  split
  · exact h _ rfl rfl
  · exact h' _ rfl rfl
  · trivial

theorem flat_bool {d : Nat} {t : TypeId} (h : flatD P d t = some [1]) (hr : (P.underlying t).map TypeDesc.isRow = some false) : P.underlying t = some .bool := by
  cases d with
  | zero => cases h
  | succ d =>
    simp only [flatD] at h
    split at h
    · cases h
    · assumption
    · cases h
    · rename_i hu _; rw [hu] at hr; cases hr
    · rename_i hu _; rw [hu] at hr; cases hr
    · cases h

theorem good_binR (hT : ∀ t i, tyOf E.ty t = some i → TIok P t i) (op : BinOp) (t t' : TypeId) (x y : Operand) (hop : o.op = .binOp op t x y t') (hx : sat (ρ x) c [a.eval x]) (hy : sat (ρ y) c [a.eval y]) :
    GoodR P W0 X N c fr hp nx a o (binR E op t (ρ x) (ρ y)) := by
  generalize hvx : ρ x = ax at hx
  generalize hvy : ρ y = ay at hy
  unfold binR
  split
  · rename_i p q
    have e1 : a.eval x = .bool p := by simpa [sat] using hx
    have e2 : a.eval y = .bool q := by simpa [sat] using hy
    split
    · rename_i i hi
      split
      · rename_i he hag
        have hu : P.underlying t = some .bool := flat_bool ((hT t i hi).eq _ he).2 (by rw [(hT t i hi).ag, hag])
        refine good_eqR (fun r hr ho => ?_) (fun r hr ho => ?_)
        · injection hr with hr; subst hr ho
          refine okv_bin hop e1 e2 ?_
          simp [eqGuard, binOp, Op.equal, Op.maxDepth, run_equalIn_bool' c.w 9999 t p q hu]
        · injection hr with hr; subst hr ho
          refine okv_bin hop e1 e2 ?_
          simp [eqGuard, binOp, Op.equal, Op.maxDepth, run_equalIn_bool' c.w 9999 t p q hu]
      · trivial
    · trivial
  · exact good_bin op t t' x y hop (by simpa [sat] using hx) (by simpa [sat] using hy)
  · rename_i l m
    split
    · rename_i i hi
      split
      · rename_i ks he
        cases hag : i.ag with
        | false => trivial
        | true =>
          simp only [cond_true]
          obtain ⟨xs, e1, hxs⟩ := hx
          obtain ⟨ys, e2, hys⟩ := hy
          have e1' : a.eval x = .agg xs := by simpa using e1
          have e2' : a.eval y = .agg ys := by simpa using e2
          obtain ⟨hg, hf⟩ := (hT t i hi).eq ks he
          have hr : (P.underlying t).map TypeDesc.isRow = some true := by rw [(hT t i hi).ag, hag]
          have key : ∀ q, eqQ ks l m = some q → (Op.equalIn 10000 t (.agg xs) (.agg ys)).run P c.w = .ok q c.w := fun q hq => flat_eq hf (by omega) hr (eqQ_ok ks hq hxs hys) c.w
          refine good_eqR (fun q hq ho => ?_) (fun q hq ho => ?_)
          · subst ho
            refine okv_bin hop e1' e2' ?_
            rw [Sem.run_bind, run_eqGuard_agg _ _ _ _ _ _ _ hg, Result.andThen_ok, run_eql_struct, key q hq, Result.andThen_ok]
          · subst ho
            refine okv_bin hop e1' e2' ?_
            rw [Sem.run_bind, run_eqGuard_agg _ _ _ _ _ _ _ hg, Result.andThen_ok, run_neq_struct, key q hq, Result.andThen_ok]
      · trivial
    · trivial
  · trivial

/-! ### Conversions, functions -/
theorem good_convert (hT : ∀ t i, tyOf E.ty t = some i → TIok P t i) (s t : TypeId) (x : Operand) (hop : o.op = .convert s t x) {is i : TI} (his : TIok P s is) (hi : TIok P t i) {k0 : IntKind} {z : Int} (hx : a.eval x = .int k0 z) {k : IntKind} (hk : i.ik = some k) :
    OKv P c a o (.v (.int k (k.wrap z))) := by
  refine ⟨_, ?_, rfl⟩
  have hu := hi.ik k hk
  have hsu := his.ag
  cases hq : P.underlying s with
  | none => simp [hq] at hsu
  | some d =>
    unfold execOp; rw [hop]
    simp only [hx, Sem.run_bind, convert, run_underlying hu, run_underlying hq, Result.andThen_ok]
    cases d <;> simp [Conv.intToInt]

theorem sat_list (l : List Operand) (h : ∀ p ∈ l, sat (ρ p) c [a.eval p]) : sat (l.foldr (fun x l => .cons (ρ x) l) .nil) c (l.map a.eval) := by
  induction l with
  | nil => exact rfl
  | cons p l ih => exact ⟨a.eval p, l.map a.eval, rfl, h p (by simp), ih fun q hq => h q (by simp [hq])⟩
theorem sat_app : ∀ (x : AV) {y : AV} {xs ys : List Value}, (∃ n, lenIs x n = true) → sat x c xs → sat y c ys → sat (appA x y) c (xs ++ ys)
  | .nil, y, xs, ys, _, hx, hy => by
    have : xs = [] := hx
    subst this
    exact hy
  | .cons v l, y, xs, ys, ⟨n, hn⟩, ⟨q, r, e, h1, h2⟩, hy => by
    subst e
    cases n with
    | zero => cases hn
    | succ n => exact ⟨q, r ++ ys, rfl, h1, sat_app l ⟨n, hn⟩ h2 hy⟩
  | .u, _, _, _, ⟨n, h⟩, _, _ => by cases n <;> cases h
  | .v _, _, _, _, ⟨n, h⟩, _, _ => by cases n <;> cases h
  | .agg _, _, _, _, ⟨n, h⟩, _, _ => by cases n <;> cases h
  | .tup _, _, _, _, ⟨n, h⟩, _, _ => by cases n <;> cases h
  | .fn _ _, _, _, _, ⟨n, h⟩, _, _ => by cases n <;> cases h
  | .gd _ _, _, _, _, ⟨n, h⟩, _, _ => by cases n <;> cases h
  | .ptr _ _, _, _, _, ⟨n, h⟩, _, _ => by cases n <;> cases h
  | .sc _ _ _ _, _, _, _, ⟨n, h⟩, _, _ => by cases n <;> cases h
  | .rd _ _ _, _, _, _, ⟨n, h⟩, _, _ => by cases n <;> cases h
  | .rp _ _ _, _, _, _, ⟨n, h⟩, _, _ => by cases n <;> cases h
  | .ow _, _, _, _, ⟨n, h⟩, _, _ => by cases n <;> cases h
  | .op _ _ _ _, _, _, _, ⟨n, h⟩, _, _ => by cases n <;> cases h
theorem list_len (l : List Operand) : lenIs (l.foldr (fun x l => .cons (ρ x) l) .nil) l.length = true := by
  induction l with
  | nil => rfl
  | cons p l ih => exact ih

theorem good_makeFunc (f : FuncId) (first cap : Array Operand) (hop : o.op = .makeFunc (.func f) first cap) (hf : first.isEmpty = true) (hx : ∀ p ∈ cap.toList, sat (ρ p) c [a.eval p]) :
    OKv P c a o (.fn f (cap.toList.foldr (fun x l => .cons (ρ x) l) .nil)) := by
  have hfe : first = #[] := by simpa using hf
  subst hfe
  refine ⟨.func (.func f) #[] (cap.map a.eval), ?_, cap.map a.eval, rfl, by simpa using sat_list _ hx⟩
  unfold execOp; rw [hop]
  simp [Instr.makeFunc, Sem.run_bind]

theorem good_call (call : FuncId → AV → Option CR) (hC : CallOk P call) (ol : ∀ b, c.O b → b < c.w.heap.size) (cl : Call) (hop : o.op = .call cl) (f : Operand) (hf : cl.callee = .value f) (g : FuncId) (cap : AV) (hg : sat (.fn g cap) c [a.eval f])
    (hx : ∀ p ∈ cl.args.toList, sat (ρ p) c [a.eval p]) (r : CR) (hr : call g (appA (cl.args.toList.foldr (fun x l => .cons (ρ x) l) .nil) cap) = some r) : GoodR P W0 X N c fr hp nx a o (.call r) := by
  intro hpre
  obtain ⟨cs, e, hcs⟩ := hg
  have e' : a.eval f = .func (.func g) #[] cs := by simpa using e
  obtain ⟨⟨fn, hfn, hbody, hname⟩, hcall⟩ := hC g _ r hr hpre c (cl.args.map a.eval ++ cs) (by simpa using sat_app _ ⟨_, list_len _⟩ (sat_list _ hx) hcs) ol
  refine ⟨g, cl.args.map a.eval ++ cs, ?_, hcall⟩
  unfold execOp; rw [hop]
  have hb' : ¬ fn.body = none := by intro h; simp [h] at hbody
  simp [resolve, hf, e', Deferred.ofValue, invoke, callFunc, hfn, hname, hb', Sem.run_bind, program, Sem.run]

/-! ### Slices -/
theorem bnd_ok {d : Int} {v : Option Operand} {z : Int} (h : bnd d (v.map ρ) = some z) (hx : ∀ p, v = some p → sat (ρ p) c [a.eval p]) : (v = none ∧ z = d) ∨ ∃ p k, v = some p ∧ a.eval p = .int k z := by
  cases v with
  | none => injection h with h; exact .inl ⟨rfl, h.symm⟩
  | some p =>
    refine .inr ⟨p, ?_⟩
    have hp := hx p rfl
    simp only [Option.map_some, bnd] at h
    generalize ρ p = q at h hp
    unfold bndV at h
    split at h
    · injection h with h; subst h
      exact ⟨_, rfl, by simpa [sat] using hp⟩
    · cases h

theorem bounds_ok {isSlice : Bool} {len cap : Nat} {lo hi mx : Option Operand} {l h m : Int} (hl : bnd 0 (lo.map ρ) = some l) (hh : bnd len (hi.map ρ) = some h) (hm : bnd cap (mx.map ρ) = some m) (hmh : (mx.isNone || hi.isSome) = true)
    (hxl : ∀ p, lo = some p → sat (ρ p) c [a.eval p]) (hxh : ∀ p, hi = some p → sat (ρ p) c [a.eval p]) (hxm : ∀ p, mx = some p → sat (ρ p) c [a.eval p]) (h0 : 0 ≤ l) (h1 : l ≤ h) (h2 : h ≤ m) (h3 : m ≤ cap) (w : World) :
    (Instr.sliceBounds isSlice len cap (lo.map a.eval) (hi.map a.eval) (mx.map a.eval)).run P w = .ok (l.toNat, h.toNat, m.toNat) w := by
  have sb : ∀ (k : IntKind) (i : Int) (y : Nat) (code : BoundsCode), 0 ≤ i → i ≤ y → (Instr.sliceBound (.int k i) y code).run P w = .ok i.toNat w := fun k i y code h0 h1 => by
    simp [Instr.sliceBound, asIntOf, Sem.run_bind, h0, h1]
  unfold Instr.sliceBounds
  rcases bnd_ok hm hxm with ⟨rfl, rfl⟩ | ⟨pm, km, rfl, em⟩
  · rcases bnd_ok hh hxh with ⟨rfl, rfl⟩ | ⟨ph, kh, rfl, eh⟩
    · rcases bnd_ok hl hxl with ⟨rfl, rfl⟩ | ⟨pl, kl, rfl, el⟩
      · simp [Sem.run_bind]
      · simp [Sem.run_bind, el, sb kl l len _ h0 (by omega)]
    · rcases bnd_ok hl hxl with ⟨rfl, rfl⟩ | ⟨pl, kl, rfl, el⟩
      · simp [Sem.run_bind, eh, sb kh h cap _ (by omega) (by omega)]
      · simp [Sem.run_bind, eh, sb kh h cap _ (by omega) (by omega), el, sb kl l h.toNat _ h0 (by omega)]
  · rcases bnd_ok hh hxh with ⟨rfl, rfl⟩ | ⟨ph, kh, rfl, eh⟩
    · simp at hmh
    · rcases bnd_ok hl hxl with ⟨rfl, rfl⟩ | ⟨pl, kl, rfl, el⟩
      · simp [Sem.run_bind, em, sb km m cap _ (by omega) (by omega), eh, sb kh h m.toNat _ (by omega) (by omega)]
      · simp [Sem.run_bind, em, sb km m cap _ (by omega) (by omega), eh, sb kh h m.toNat _ (by omega) (by omega), el, sb kl l h.toNat _ h0 (by omega)]

theorem good_slice (t : TypeId) (x : Operand) (lo hi mx : Option Operand) (hop : o.op = .slice t x lo hi mx) (i : TI) (hti : TIok P t i) (k : Nat) (hk : ∀ w : World, i.kd = 2 ∨ i.kd = 3 → (sizeOf i.el).run P w = .ok k w)
    (hx : sat (ρ x) c [a.eval x]) (hxl : ∀ p, lo = some p → sat (ρ p) c [a.eval p]) (hxh : ∀ p, hi = some p → sat (ρ p) c [a.eval p]) (hxm : ∀ p, mx = some p → sat (ρ p) c [a.eval p]) :
    GoodR P W0 X N c fr hp nx a o (sliceR i k (lo.map ρ) (hi.map ρ) (mx.map ρ) (ρ x)) := by
  have fin : ∀ (v : AV) (y : Value), (Instr.sliceAt t (a.eval x) (lo.map a.eval) (hi.map a.eval) (mx.map a.eval)).run P c.w = .ok y c.w → sat v c [y] → OKv P c a o v := fun v y hr hv => by
    refine ⟨y, ?_, hv⟩
    unfold execOp; rw [hop]
    simp only [Sem.run_bind, hr, Result.andThen_ok, Sem.run_pure]
  have off : ∀ (b q l m : Nat), (some (if m = l then (⟨b, q, none⟩ : Addr) else (⟨b, q, none⟩ : Addr).add (l * k)) : Option Addr) = some ⟨b, bif Nat.beq m l then q else q + l * k, none⟩ := fun b q l m => by
    by_cases h : m = l
    · subst h; simp
    · simp [h, Addr.add_mid, beq_ne h]
  generalize ρ x = r at hx
  cases r with
  | ptr j q =>
    simp only [sliceR]
    cases hc : (Nat.beq i.kd 2 && ((mx.map ρ).isNone || (hi.map ρ).isSome)) with
    | false => trivial
    | true =>
      simp only [Bool.and_eq_true] at hc
      simp only [cond_true]
      split
      · rename_i l h m hl hh hm
        rintro ⟨h0, h1, h2, h3⟩
        obtain ⟨hj, b, hb, e⟩ := hx
        have e' : a.eval x = .pointer (some ⟨b, q, none⟩) := by simpa using e
        have hkd := Nat.eq_of_beq_eq_true hc.1
        refine fin _ (.slice (some ⟨b, bif Nat.beq m.toNat l.toNat then q else q + l.toNat * k, none⟩) (h.toNat - l.toNat) (m.toNat - l.toNat)) ?_ ⟨hj, b, hb, rfl⟩
        simp only [Instr.sliceAt, Sem.run_bind, run_underlying (hti.ar hkd), Result.andThen_ok, e', Instr.sureAddr, Sem.run_pure,
          bounds_ok hl hh hm (by simpa using hc.2) hxl hxh hxm h0 h1 h2 h3 c.w, hk c.w (.inl hkd), off]
      · trivial
  | sc j q n cp =>
    simp only [sliceR]
    cases hc : (Nat.beq i.kd 3 && ((mx.map ρ).isNone || (hi.map ρ).isSome)) with
    | false => trivial
    | true =>
      simp only [Bool.and_eq_true] at hc
      simp only [cond_true]
      split
      · rename_i l h m hl hh hm
        rintro ⟨h0, h1, h2, h3⟩
        obtain ⟨hj, b, hb, e⟩ := hx
        have e' : a.eval x = .slice (some ⟨b, q, none⟩) n cp := by simpa using e
        have hkd := Nat.eq_of_beq_eq_true hc.1
        refine fin _ (.slice (some ⟨b, bif Nat.beq m.toNat l.toNat then q else q + l.toNat * k, none⟩) (h.toNat - l.toNat) (m.toNat - l.toNat)) ?_ ⟨hj, b, hb, rfl⟩
        have hmap : (if m.toNat = l.toNat then some (⟨b, q, none⟩ : Addr) else Option.map (fun ad : Addr => ad.add (l.toNat * k)) (some ⟨b, q, none⟩)) = some ⟨b, bif Nat.beq m.toNat l.toNat then q else q + l.toNat * k, none⟩ := by
          rw [← off]; split <;> rfl
        simp only [Instr.sliceAt, Sem.run_bind, run_underlying (hti.sl hkd), Result.andThen_ok, e', Instr.slice,
          bounds_ok hl hh hm (by simpa using hc.2) hxl hxh hxm h0 h1 h2 h3 c.w, hk c.w (.inr hkd), hmap, Sem.run_pure]
      · trivial
  | rd k' n g =>
    simp only [sliceR]
    cases hc : (Nat.beq i.kd 3 && Nat.beq k' k && (mx.map ρ).isNone) with
    | false => trivial
    | true =>
      simp only [Bool.and_eq_true] at hc
      simp only [cond_true]
      split
      · rename_i l h hl hh
        rintro ⟨h0, h1, h2⟩
        obtain ⟨A, cp, e, hnm, hall⟩ := hx
        have e' : a.eval x = .slice A n cp := by simpa using e
        have hkd := Nat.eq_of_beq_eq_true hc.1.1
        have hkk : k' = k := Nat.eq_of_beq_eq_true hc.1.2
        have hmx : mx = none := by simpa using hc.2
        refine fin _ (.slice (if cp = l.toNat then A else A.map (·.add (l.toNat * k))) (h.toNat - l.toNat) (cp - l.toNat)) ?_ ?_
        · have := bounds_ok (isSlice := true) (len := n) (cap := cp) (a := a) (mx := mx) (m := cp) hl hh (by rw [hmx]; rfl) (by rw [hmx]; rfl) hxl hxh hxm h0 h1 (by omega) (by omega) c.w (P := P)
          simp only [Instr.sliceAt, Sem.run_bind, run_underlying (hti.sl hkd), Result.andThen_ok, e', Instr.slice, this, hk c.w (.inr hkd), Sem.run_pure, Int.toNat_natCast]
        · refine ⟨_, _, rfl, by omega, fun x hx => ?_⟩
          obtain ⟨ad, rfl, hsp, hO, hb, hcl⟩ := hall (l.toNat + x) (by omega)
          obtain ⟨b, q, sp⟩ := ad
          simp only at hsp
          subst hsp
          have hne : ¬ cp = l.toNat := by omega
          refine ⟨⟨b, q + l.toNat * k, none⟩, by simp [hne, Addr.add_mid], rfl, hO, hb, fun j hj => ?_⟩
          obtain ⟨y, hy, hs⟩ := hcl j hj
          refine ⟨y, ?_, hs⟩
          rw [hkk] at hy
          rw [show q + l.toNat * k + (x * k' + j) = q + ((l.toNat + x) * k + j) by rw [hkk, Nat.add_mul]; omega]
          exact hy
      · trivial
  | v y =>
    cases y with
    | string s =>
      simp only [sliceR]
      cases hc : (Nat.beq i.kd 5 && (mx.map ρ).isNone) with
      | false => trivial
      | true =>
        simp only [Bool.and_eq_true] at hc
        simp only [cond_true]
        split
        · rename_i l h hl hh
          rintro ⟨h0, h1, h2⟩
          have e' : a.eval x = .string s := by simpa [sat] using hx
          have hkd := Nat.eq_of_beq_eq_true hc.1
          have hmx : mx = none := by simpa using hc.2
          refine fin _ _ ?_ rfl
          have := bounds_ok (isSlice := false) (len := s.size) (cap := s.size) (a := a) (mx := mx) (m := s.size) hl hh (by rw [hmx]; rfl) (by rw [hmx]; rfl) hxl hxh hxm h0 h1 (by omega) (by omega) c.w (P := P)
          rw [hmx] at this ⊢
          simp only [Option.map_none] at this ⊢
          simp only [Instr.sliceAt, Sem.run_bind, run_underlying (hti.tx hkd), Result.andThen_ok, e', Instr.slice, this, Sem.run_pure, Option.isSome_none, Bool.false_eq_true, if_false]
        · trivial
    | _ => trivial
  | _ => trivial

/-! ### Built-in functions -/
theorem run_builtin {cl : Call} {b : Builtin} (hop : o.op = .call cl) (hb : cl.callee = .builtin b) {w w' : World} {v : Value} (h : (builtin b cl.argTypes o.type (cl.args.map fun | .const _ => true | _ => false) (cl.args.map a.eval)).run P w = .ok (.value v) w') :
    (execOp a.eval o).run P w = .ok (.value v) w' := by
  unfold execOp; rw [hop]
  simp only [Sem.run_bind, resolve, hb, Sem.run_pure, Result.andThen_ok, invoke]
  exact h

theorem setR_ok (h : Gam W0 X N c fr hp nx a) {j q : Nat} {l c0 v : AV} (hj : getAO hp j = .cells l) {b : Nat} (hjn : j < c.n) (hk : c.key j = some b) {cs : List Value} (hcs : sat c0 c cs) (y : Value) (hv : v = .v y)
    (hrun : ∀ (cur : Array Value) (t : TypeId), c.w.heap[b]? = some (.cells cur t (0, 0)) → q + cs.length ≤ cur.size → (∀ v ∈ cs, v.oneCell' = true) → (execOp a.eval o).run P c.w = .ok (.value y) (c.w.setRow b (cur.toList.take q ++ cs ++ cur.toList.drop (q + cs.length)).toArray)) :
    GoodR P W0 X N c fr hp nx a o (setR j l q c0 v) := by
  unfold setR
  cases hone : ones c0 with
  | false => trivial
  | true =>
    simp only [cond_true]
    cases hst : setc l q c0 with
    | none => trivial
    | some l' =>
      intro hjl
      obtain ⟨b', cur, ty, hk', hh, hs⟩ := h.o j _ (getAO_ok hp j hj)
      rw [hk] at hk'; injection hk' with hk'; subst hk'
      obtain ⟨hle, hs2⟩ := setc_ok l q c0 hst hs hcs
      obtain ⟨c', hw, hg⟩ := h.setO (l := l') (cs := (cur.toList.take q ++ cs ++ cur.toList.drop (q + cs.length)).toArray) hjn hk hh (by simpa using hs2)
      refine ⟨y, c', ?_, hg, by rw [hv]; rfl⟩
      rw [hw]
      exact hrun cur ty hh (by simpa using hle) (ones_ok c0 hone hcs)
theorem run_copy {ts : Array TypeId} {t ty el : TypeId} {ts' : List TypeId} (hts : ts.toList = t :: ts') (hu : P.underlying t = some (.slice el)) {k : Nat} (w : World) (hk : (sizeOf el).run P w = .ok k w) {b q n m n' : Nat} {src : Value} (hl : (Builtin.lenOf src).run P w = .ok n' w)
    {cs : List Value} (hc : (Builtin.firstCells k (Nat.min n' n) src).run P w = .ok cs.toArray w) {cur : Array Value} {ct : TypeId} (hh : w.heap[b]? = some (.cells cur ct (0, 0))) (hle : q + cs.length ≤ cur.size) (hone : ∀ v ∈ cs, v.oneCell' = true) :
    (Builtin.copy_ ts ty #[.slice (some ⟨b, q, none⟩) n m, src]).run P w = .ok (.int .i64 (Nat.min n' n)) (w.setRow b (cur.toList.take q ++ cs ++ cur.toList.drop (q + cs.length)).toArray) := by
  have ht : ts[0]? = some t := by rw [← Array.getElem?_toList, hts]; rfl
  have hst := run_storeCells_at (P := P) b q ct cs 0 cur w hh (by simpa using hle) hone
  unfold Builtin.copy_
  simp only [ht, Sem.run_bind, run_underlying hu, Result.andThen_ok, hl, hk, hc, goInt]
  simp only [List.getElem?_toArray, List.getElem?_cons_zero, List.getElem?_cons_succ, Sem.run_bind, run_underlying hu, Result.andThen_ok, hl, hk, hc, hst, Sem.run_pure, Nat.add_zero]

theorem good_copy (h : Gam W0 X N c fr hp nx a) {cl : Call} (hop : o.op = .call cl) (hb : cl.callee = .builtin .copy) {t : TypeId} {ts : List TypeId} (hts : cl.argTypes.toList = t :: ts) {i ie : TI} (hi : TIok P t i) (hk : i.kd = 3) (hie : TIok P i.el ie) {x y : AV} {vx vy : Value} (hargs : cl.args.map a.eval = #[vx, vy]) (hx : sat x c [vx]) (hy : sat y c [vy]) :
    GoodR P W0 X N c fr hp nx a o (copyR hp ie.sz x y) := by
  have go : ∀ (b q n m n' j : Nat) (l c0 : AV) (cs : List Value), vx = .slice (some ⟨b, q, none⟩) n m → j < c.n → c.key j = some b → getAO hp j = .cells l → (Builtin.lenOf vy).run P c.w = .ok n' c.w → (Builtin.firstCells ie.sz (Nat.min n' n) vy).run P c.w = .ok cs.toArray c.w → sat c0 c cs →
      GoodR P W0 X N c fr hp nx a o (setR j l q c0 (.v (.int .i64 (Nat.min n' n)))) := by
    intro b q n m n' j l c0 cs e1 hj hkey hjl hlen hfirst hcs
    refine setR_ok h hjl hj hkey hcs _ rfl fun cur ct hh hle hone => ?_
    refine run_builtin hop hb ?_
    rw [hargs, e1]
    simp only [builtin, Sem.run_bind, run_copy (ty := o.type) hts (hi.sl hk) c.w (run_sizeOf hie c.w) hlen hfirst hh hle hone, Result.andThen_ok, Sem.run_pure]
  cases x with
  | sc j q n m =>
    obtain ⟨hj, b, hkey, e1⟩ := hx
    have e1' : vx = .slice (some ⟨b, q, none⟩) n m := by simpa using e1
    cases y with
    | sc i' q' n' m' =>
      have hy' := hy
      obtain ⟨hi', b', hkey', e2⟩ := hy
      have e2' : vy = .slice (some ⟨b', q', none⟩) n' m' := by simpa using e2
      simp only [copyR]
      split
      · rename_i li lj hli hlj
        split
        · rename_i cc hcc
          have hp1 : sat (.ptr i' q') c [.pointer (some ⟨b', q', none⟩)] := ⟨hi', b', hkey', rfl⟩
          obtain ⟨b2, cs, ct, _, hk2, e3, hh, hs, hle, hsp, hr⟩ := h.cells hp1 hli hcc
          rw [hkey'] at hk2; injection hk2 with hk2; subst hk2
          refine go b q n m n' j lj cc ((cs.toList.drop q').take (Nat.min n' n * ie.sz)) e1' hj hkey hlj (by rw [e2']; rfl) ?_ hsp
          rw [e2']
          have hlc := run_loadCells_list (P := P) c.w (⟨b', q', none⟩ : Addr) _ (fun k v hv => by rw [Addr.add_mid]; exact hr k v hv)
          have hln : ((cs.toList.drop q').take (Nat.min n' n * ie.sz)).length = Nat.min n' n * ie.sz := by simp; omega
          rw [hln] at hlc
          simpa [Builtin.firstCells] using hlc
        · trivial
      · trivial
    | rd k' n' g =>
      obtain ⟨A, cp, e2, hnm, hall⟩ := hy
      have e2' : vy = .slice A n' cp := by simpa using e2
      simp only [copyR]
      cases hkk : (Nat.beq k' 1 && Nat.beq ie.sz 1) with
      | false => trivial
      | true =>
        simp only [Bool.and_eq_true] at hkk
        have hk1 := Nat.eq_of_beq_eq_true hkk.1
        have hk2 := Nat.eq_of_beq_eq_true hkk.2
        simp only [cond_true]
        split
        · rename_i lj hlj
          have hg : ∀ m, m ≤ n' → ∃ cs : List Value, cs.length = m ∧ (∀ j, j < m → ∃ y, cs[j]? = some y ∧ sat (g j 0) c.bare [y]) ∧ ∀ ad, A = some ad → ∀ j v, cs[j]? = some v → c.w.cell? (ad.add j) = some v := by
            intro m
            induction m with
            | zero => exact fun _ => ⟨[], rfl, fun j hj => absurd hj (Nat.not_lt_zero _), fun _ _ j v hv => by simp at hv⟩
            | succ m ih =>
              intro hm
              obtain ⟨cs, hl, h1, h2⟩ := ih (by omega)
              obtain ⟨ad, hA, hsp, hO, hb, hc⟩ := hall m (by omega)
              obtain ⟨y, hy, hs⟩ := hc 0 (by omega)
              refine ⟨cs ++ [y], by simp [hl], fun j hj => ?_, fun ad' hA' j v hv => ?_⟩
              · by_cases hjm : j < m
                · obtain ⟨z, hz, hsz⟩ := h1 j hjm
                  exact ⟨z, by rw [List.getElem?_append_left (by omega)]; exact hz, hsz⟩
                · have : j = m := by omega
                  subst this
                  exact ⟨y, by rw [← hl]; simp, hs⟩
              · by_cases hjm : j < m
                · rw [List.getElem?_append_left (by omega)] at hv
                  exact h2 ad' hA' j v hv
                · have hjl : j < (cs ++ [y]).length := (List.getElem?_eq_some_iff.1 hv).1
                  have : j = m := by simp [hl] at hjl; omega
                  subst this
                  rw [hA] at hA'; injection hA' with hA'; subst hA'
                  have hvy : v = y := by rw [← hl] at hv; simpa using hv.symm
                  obtain ⟨bb, oo, sp⟩ := ad
                  simp only at hsp; subst hsp
                  rw [hvy, Addr.add_mid]
                  rw [hk1] at hy
                  simpa using hy
          have hmin : Nat.min n' n ≤ n' := Nat.min_le_left _ _
          obtain ⟨cs, hl, h1, h2⟩ := hg (Nat.min n' n) hmin
          refine go b q n m n' j lj _ cs e1' hj hkey hlj (by rw [e2']; rfl) ?_ (ofFn_ok _ 0 hl fun j hj => ?_)
          · rw [e2']
            cases hA : A with
            | none =>
              have hz : Nat.min n' n = 0 := by
                rcases Nat.eq_zero_or_pos n' with hz | hz
                · rw [hz]; exact Nat.zero_min _
                · obtain ⟨ad, ha, _⟩ := hall 0 hz
                  rw [hA] at ha; cases ha
              have : cs = [] := List.eq_nil_of_length_eq_zero (by rw [hl, hz])
              subst this
              rfl
            | some ad =>
              have := run_loadCells_list (P := P) c.w ad cs (h2 ad hA)
              rw [hl] at this
              simpa [Builtin.firstCells, hk2] using this
          · obtain ⟨y, hy, hs⟩ := h1 j hj
            exact ⟨y, hy, by rw [Nat.zero_add]; exact sat_bare _ hs⟩
        · trivial
    | _ => trivial
  | _ => cases y <;> trivial

theorem good_len {cl : Call} (hop : o.op = .call cl) (hb : cl.callee = .builtin .len) {t : TypeId} {ts : List TypeId} (hts : cl.argTypes.toList = t :: ts) {i : TI} (hi : TIok P t i) {x : AV} {vx : Value} (hargs : cl.args.map a.eval = #[vx]) (hx : sat x c [vx]) :
    GoodR P W0 X N c fr hp nx a o (lenR i x) := by
  have ht : cl.argTypes[0]? = some t := by rw [← Array.getElem?_toList, hts]; rfl
  have go : ∀ (d : TypeDesc) (n : Nat), P.underlying t = some d → (∀ w, (Builtin.len_ cl.argTypes o.type #[vx]).run P w = .ok (goInt n) w) → OKv P c a o (.v (.int .i64 n)) := fun d n hu hr => by
    refine ⟨.int .i64 n, ?_, rfl⟩
    refine run_builtin hop hb ?_
    rw [hargs]
    simp only [builtin, Sem.run_bind, hr, Result.andThen_ok, Sem.run_pure, goInt]
  have sl : ∀ (A : Option Addr) (n m : Nat), i.kd = 3 → vx = .slice A n m → OKv P c a o (.v (.int .i64 n)) := fun A n m hk e => by
    refine go _ n (hi.sl hk) fun w => ?_
    simp [Builtin.len_, ht, e, run_underlying (hi.sl hk), Sem.run_bind]
  unfold lenR
  split
  · rename_i k n g
    cases hk : Nat.beq i.kd 3 with
    | false => trivial
    | true =>
      obtain ⟨A, cp, e2, _⟩ := hx
      exact sl A n cp (Nat.eq_of_beq_eq_true hk) (by simpa using e2)
  · rename_i j q n m
    cases hk : Nat.beq i.kd 3 with
    | false => trivial
    | true =>
      obtain ⟨_, b, _, e2⟩ := hx
      exact sl _ n m (Nat.eq_of_beq_eq_true hk) (by simpa using e2)
  · rename_i A n m
    cases hk : Nat.beq i.kd 3 with
    | false => trivial
    | true => exact sl A n m (Nat.eq_of_beq_eq_true hk) (by simpa [sat] using hx)
  · rename_i s
    cases hk : Nat.beq i.kd 5 with
    | false => trivial
    | true =>
      have e : vx = .string s := by simpa [sat] using hx
      have hu := hi.tx (Nat.eq_of_beq_eq_true hk)
      refine go _ s.size hu fun w => ?_
      simp [Builtin.len_, ht, e, run_underlying hu, Sem.run_bind]
  · cases hk : Nat.beq i.kd 2 with
    | false => trivial
    | true =>
      have hu := hi.ar (Nat.eq_of_beq_eq_true hk)
      refine go _ i.ar hu fun w => ?_
      obtain ⟨cs, e, _⟩ := hx
      have e' : vx = .agg cs := by simpa using e
      simp [Builtin.len_, ht, e', run_underlying hu, Sem.run_bind]
  · trivial

theorem args_one {x : AV} {vs : Array Value} (h : sat (.cons x .nil) c vs.toList) : ∃ v, vs = #[v] ∧ sat x c [v] := by
  obtain ⟨v, r, e, h1, h2⟩ := h
  have : r = [] := h2
  subst this
  exact ⟨v, by rw [← Array.toList_inj]; exact e, h1⟩
theorem args_two {x y : AV} {vs : Array Value} (h : sat (.cons x (.cons y .nil)) c vs.toList) : ∃ v u, vs = #[v, u] ∧ sat x c [v] ∧ sat y c [u] := by
  obtain ⟨v, r, e, h1, q, r2, e2, h2, h3⟩ := h
  have : r2 = [] := h3
  subst this e2
  exact ⟨v, q, by rw [← Array.toList_inj]; exact e, h1, h2⟩

theorem good_callB (hT : ∀ t i, tyOf E.ty t = some i → TIok P t i) (h : Gam W0 X N c fr hp nx a) {cl : Call} (hop : o.op = .call cl) {b : Builtin} (hb : cl.callee = .builtin b) {l : AV} (hl : sat l c (cl.args.map a.eval).toList) :
    GoodR P W0 X N c fr hp nx a o (callB E hp b cl.argTypes.toList l) := by
  unfold callB
  split
  · rename_i k x k' y
    obtain ⟨v, q, e, h1, h2⟩ := args_two hl
    have e1 : v = .int k x := by simpa [sat] using h1
    have e2 : q = .int k' y := by simpa [sat] using h2
    refine ⟨_, ?_, rfl⟩
    refine run_builtin hop hb ?_
    rw [e, e1, e2]
    simp [builtin, Sem.run_bind, Builtin.min_, Builtin.min2]
  · rename_i k x k' y
    obtain ⟨v, q, e, h1, h2⟩ := args_two hl
    have e1 : v = .int k x := by simpa [sat] using h1
    have e2 : q = .int k' y := by simpa [sat] using h2
    refine ⟨_, ?_, rfl⟩
    refine run_builtin hop hb ?_
    rw [e, e1, e2]
    simp [builtin, Sem.run_bind, Builtin.max_, Builtin.max2]
  · rename_i t ts x hts
    split
    · rename_i i hi
      obtain ⟨v, e, h1⟩ := args_one hl
      exact good_len hop hb hts (hT t i hi) e h1
    · trivial
  · rename_i t ts x y hts
    split
    · rename_i i hi
      split
      · rename_i ie hie
        cases hk : Nat.beq i.kd 3 with
        | false => trivial
        | true =>
          obtain ⟨v, q, e, h1, h2⟩ := args_two hl
          exact good_copy h hop hb hts (hT t i hi) (Nat.eq_of_beq_eq_true hk) (hT _ _ hie) e h1 h2
      · trivial
    · trivial
  · trivial
end

end Go.Proofs.Ythlkhjfilfdpiaa.Eng
