/- ENGINE, 13: a run says more of more; tables of types, of contracts. -/
import Derived.Test.YthlkhjfilfdpiaaE12
namespace Go.Proofs.Ythlkhjfilfdpiaa.Eng
set_option linter.unusedVariables false
set_option linter.unusedSimpArgs false
open Go Go.RowKit

section
variable {E : Env} {N : Nat} {K K' : Post}
theorem flushK_mono : ∀ (pd : List (Nat × AO)) {hp : List AO} {K K' : List AO → Prop}, (∀ hp, K hp → K' hp) → flushK pd hp K → flushK pd hp K'
  | [], _, _, _, hm, h => hm _ h
  | (i, o) :: r, hp, K, K', hm, h => setK_mk hp (setK_ok hp h).1 (flushK_mono r hm (setK_ok hp h).2)
theorem voids_mono : ∀ (n : Nat) {hp : List AO} {K K' : List AO → Prop}, (∀ hp, K hp → K' hp) → voids n hp K → voids n hp K'
  | 0, _, _, _, hm, h => hm _ h
  | n + 1, hp, K, K', hm, h => snocK_mk hp (voids_mono n hm (snocK_ok hp h))
theorem slotO_mono {fr : Fr} {hp : List AO} {sl : Nat} {o : Oper} {K K' : Fr → AO → Prop} (hm : ∀ fr ob, K fr ob → K' fr ob) (h : slotO E fr hp sl o K) : slotO E fr hp sl o K' := by
  unfold slotO at h ⊢
  split
  · rename_i v ob e1 e2
    simp only [e1, e2] at h
    refine obs_loc _ (fun _ _ => rfl) h fun hk => ?_
    refine force_swap v hk (forceO_swap ob (force_ok v hk) ?_)
    exact putK_mono (forceO_ok ob (force_ok v hk)) fun fr hk => hm _ _ hk
  · rename_i hne
    split at h
    · rename_i v ob e1 e2; exact absurd e2 (hne v ob e1)
    · exact h
theorem runDraw_mono {all : List Oper} {tab : List (List Nat)} {hs : List Bool} (hm : ∀ fr hp nx, K fr hp nx → K' fr hp nx) : ∀ (l : List Oper) (i sl : Nat) (pd : List (Nat × AO)) {fr : Fr} {hp : List AO} {nx : Nat}, runDraw E all tab hs i l sl pd fr hp nx K → runDraw E all tab hs i l sl pd fr hp nx K'
  | [], _, _, pd, _, _, _, h => flushK_mono pd (fun _ h => hm _ _ _ h) h
  | o :: r, i, sl, pd, fr, hp, nx, h => by
    unfold runDraw at h ⊢
    cases hb : barrier tab hs i with
    | true =>
      rw [hb] at h
      exact flushK_mono pd (fun hp h => stepG_mono (fun _ _ _ h => runDraw_mono hm r (i + 1) sl [] h) h) h
    | false =>
      rw [hb] at h
      simp only [cond_false] at h ⊢
      cases hn : isNew o with
      | true =>
        rw [hn] at h
        exact slotO_mono (fun _ _ h => runDraw_mono hm r (i + 1) (sl + 1) _ h) h
      | false =>
        rw [hn] at h
        exact stepG_mono (fun _ _ _ h => runDraw_mono hm r (i + 1) sl pd h) h
theorem runDraw0_mono {all : List Oper} {tab : List (List Nat)} {hs : List Bool} (hm : ∀ fr hp nx, K fr hp nx → K' fr hp nx) {l : List Oper} {fr : Fr} {hp : List AO} {nx : Nat} (h : runDraw0 E all tab hs l fr hp nx K) : runDraw0 E all tab hs l fr hp nx K' :=
  voids_mono _ (fun _ h => runDraw_mono hm l 0 nx [] h) h
theorem drawRun_mono {all : List Oper} (hm : ∀ fr hp nx, K fr hp nx → K' fr hp nx) {fr : Fr} {hp : List AO} {nx : Nat} (h : drawRun E all fr hp nx K) : drawRun E all fr hp nx K' := by
  unfold drawRun at *
  split
  · rename_i e
    simp only [e] at h
    exact runDraw0_mono hm h
  · rename_i pre s1 s2 e
    simp only [e] at h
    exact runDraw0_mono (fun fr hp nx h => runOps_mono (fun fr1 hp1 nx1 h => both_i (both_out h).1 (hm _ _ _ (both_out h).2)) _ h) h
end

theorem run_mono {E : Env} : ∀ (co : Code) {fr : Fr} {hp : List AO} {nx : Nat} {Q Q' : Ex → Post}, (∀ e fr hp nx, Q e fr hp nx → Q' e fr hp nx) → run E co fr hp nx Q → run E co fr hp nx Q'
  | .skip, fr, hp, nx, Q, Q', hm, hk => hm _ _ _ _ hk
  | .region id ops false, fr, hp, nx, Q, Q', hm, hk => runOps_mono (hm .normal) _ hk
  | .region id ops true, fr, hp, nx, Q, Q', hm, hk => ⟨hk.1, drawRun_mono (hm .normal) hk.2⟩
  | .seq x y, fr, hp, nx, Q, Q', hm, hk => run_mono x (fun e fr hp nx h => by
      cases e with
      | normal => exact run_mono y hm h
      | ret => exact hm _ _ _ _ h
      | exit n => exact hm _ _ _ _ h) hk
  | .cond x y z, fr, hp, nx, Q, Q', hm, hk => by
    unfold run at *
    split
    · rename_i b e
      simp only [e] at hk
      exact fork_i (fun hb => run_mono y hm ((fork_out hk).1 hb)) (fun hb => run_mono z hm ((fork_out hk).2 hb))
    · rename_i hne
      split at hk
      · rename_i b e; exact absurd e (hne b)
      · exact hk
  | .block id x, fr, hp, nx, Q, Q', hm, hk => run_mono x (fun e fr hp nx h => by
      cases e with
      | normal => exact hm _ _ _ _ h
      | ret => exact hm _ _ _ _ h
      | exit n =>
        simp only at h ⊢
        cases hb : Nat.beq n id with
        | true => simp only [hb, cond_true] at h ⊢; exact hm _ _ _ _ h
        | false => simp only [hb, cond_false] at h ⊢; exact hm _ _ _ _ h) hk
  | .loop x, fr, hp, nx, Q, Q', hm, hk => by
    have hk' : loopP (run E x) fr hp nx Q := hk
    show loopP (run E x) fr hp nx Q'
    unfold loopP at *
    obtain ⟨I, h0, hr⟩ := hk'
    refine ⟨I, h0, fun n fr hp nx hI => run_mono x (fun e fr hp nx h => ?_) (hr n fr hp nx hI)⟩
    cases e with
    | normal => exact h
    | ret => exact hm _ _ _ _ h
    | exit k => exact hm _ _ _ _ h
  | .exit n, fr, hp, nx, Q, Q', hm, hk => hm _ _ _ _ hk
  | .ret, fr, hp, nx, Q, Q', hm, hk => hm _ _ _ _ hk
  | .rangeFunc _ _ _ _, _, _, _, _, _, _, hk => hk.elim
  | .scope _, _, _, _, _, _, _, hk => hk.elim
  | .label _, _, _, _, _, _, _, hk => hk.elim
  | .goto _, _, _, _, _, _, _, hk => hk.elim
  | .refuse _, _, _, _, _, _, _, hk => hk.elim

/-- A loop of at most n rounds: each is run. -/
theorem unroll {E : Env} {co : Code} {fr : Fr} {hp : List AO} {nx : Nat} {Q : Ex → Post} (n : Nat) (h : rounds (run E co) Q n fr hp nx) : loopP (run E co) fr hp nx Q :=
  loop_rounds n (fun hm hk => run_mono co hm hk) h
/-- A loop with a relation over a variable. -/
theorem looped {E : Env} {co : Code} {fr : Fr} {hp : List AO} {nx : Nat} {Q : Ex → Post} {σ : Type} (F : σ → Fr) (H : σ → List AO) (M : σ → Nat) (inv : σ → Prop) (μ : σ → Nat) (x0 : σ) (h0 : inv x0) (hF : weakF fr (F x0)) (hH : hp = H x0) (hM : nx = M x0)
    (hs : ∀ x, inv x → run E co (F x) (H x) (M x) fun e fr hp nx => match e with
      | .normal => ∃ y, inv y ∧ μ y < μ x ∧ weakF fr (F y) ∧ hp = H y ∧ nx = M y
      | .ret => Q .ret fr hp nx
      | .exit k => Q (.exit k) fr hp nx) : loopP (run E co) fr hp nx Q :=
  loop_inv F H M inv μ x0 h0 hF hH hM hs (fun hm hk => run_mono co hm hk)

/-! ### Tables -/
def AllTy (P : Program) : List (TypeId × TI) → Prop
  | [] => True
  | (t, i) :: r => TIok P t i ∧ AllTy P r
theorem allTy_ok {P : Program} : ∀ (l : List (TypeId × TI)), AllTy P l → ∀ t i, tyOf l t = some i → TIok P t i
  | [], _, t, i, h => by cases h
  | (t', i') :: r, ⟨h1, h2⟩, t, i, h => by
    simp only [tyOf] at h
    cases hb : Nat.beq t' t with
    | true =>
      simp only [hb, cond_true, Option.some.injEq] at h
      have := Nat.eq_of_beq_eq_true hb
      subst this h; exact h1
    | false =>
      simp only [hb, cond_false] at h
      exact allTy_ok r h2 t i h

section
variable {P : Program} {t : TypeId} {i : TI}
structure Eks (P : Program) (t : TypeId) (i : TI) : Prop where
  eq : i.eq = none ∨ (P.eqGuardType P.depth t = false ∧ flatD P 100 t = i.eq)
  ik : i.ik = none ∨ (P.underlying t = i.ik.map .int)
theorem Eks.e (h : Eks P t i) (ks : List Nat) (he : i.eq = some ks) : P.eqGuardType P.depth t = false ∧ flatD P 100 t = some ks := by
  rcases h.eq with h | h
  · rw [h] at he; cases he
  · rw [he] at h; exact h
theorem Eks.k (h : Eks P t i) (k : IntKind) (he : i.ik = some k) : P.underlying t = some (.int k) := by
  rcases h.ik with h | h
  · rw [h] at he; cases he
  · rw [he] at h; exact h
theorem ti0 (hk : i.kd = 0) (h1 : (P.info? t).map (·.size) = some i.sz) (h2 : (P.info? t).map (·.zero) = some i.ze) (h3 : (P.underlying t).map TypeDesc.isRow = some i.ag) (he : Eks P t i) : TIok P t i :=
  ⟨h1, fun z h => by rw [h2, h], h3, fun h => by simp [hk] at h, fun h => by simp [hk] at h, fun h => by simp [hk] at h, fun h => by simp [hk] at h, he.e, he.k⟩
theorem ti1 {fs : Array Field} (hk : i.kd = 1) (h1 : (P.info? t).map (·.size) = some i.sz) (h2 : (P.info? t).map (·.zero) = some i.ze) (h3 : (P.underlying t).map TypeDesc.isRow = some i.ag) (he : Eks P t i)
    (h4 : P.underlying t = some (.struct fs)) (h5 : fs.toList.map (fun f => (f.offset, f.type)) = i.fl) (h6 : fs.toList.mapM (fun f => (P.info? f.type).map fun j => (f.offset, j.size)) = some i.pl) : TIok P t i :=
  ⟨h1, fun z h => by rw [h2, h], h3, fun _ => ⟨fs, h4, h5, h6⟩, fun h => by simp [hk] at h, fun h => by simp [hk] at h, fun h => by simp [hk] at h, he.e, he.k⟩
theorem ti2 (hk : i.kd = 2) (h1 : (P.info? t).map (·.size) = some i.sz) (h2 : (P.info? t).map (·.zero) = some i.ze) (h3 : (P.underlying t).map TypeDesc.isRow = some i.ag) (he : Eks P t i)
    (h4 : P.underlying t = some (.array i.ar i.el)) : TIok P t i :=
  ⟨h1, fun z h => by rw [h2, h], h3, fun h => by simp [hk] at h, fun _ => h4, fun h => by simp [hk] at h, fun h => by simp [hk] at h, he.e, he.k⟩
theorem ti3 (hk : i.kd = 3) (h1 : (P.info? t).map (·.size) = some i.sz) (h2 : (P.info? t).map (·.zero) = some i.ze) (h3 : (P.underlying t).map TypeDesc.isRow = some i.ag) (he : Eks P t i)
    (h4 : P.underlying t = some (.slice i.el)) : TIok P t i :=
  ⟨h1, fun z h => by rw [h2, h], h3, fun h => by simp [hk] at h, fun h => by simp [hk] at h, fun _ => h4, fun h => by simp [hk] at h, he.e, he.k⟩
theorem ti5 (hk : i.kd = 5) (h1 : (P.info? t).map (·.size) = some i.sz) (h2 : (P.info? t).map (·.zero) = some i.ze) (h3 : (P.underlying t).map TypeDesc.isRow = some i.ag) (he : Eks P t i)
    (h4 : P.underlying t = some .string) : TIok P t i :=
  ⟨h1, fun z h => by rw [h2, h], h3, fun h => by simp [hk] at h, fun h => by simp [hk] at h, fun h => by simp [hk] at h, fun _ => h4, he.e, he.k⟩
end

abbrev Con := AV → Option CR
/-- A function's contract holds. -/
def FnOk (P : Program) (f : FuncId) (k : Con) : Prop :=
  ∀ l r, k l = some r → r.pre → ∀ (c : Cx) (args : Array Value), sat l c args.toList → (∀ b, c.O b → b < c.w.heap.size) →
    (∃ fn : Func, P.funcs[f]? = some fn ∧ fn.body.isSome = true ∧ fn.name ≠ "runtime.NumGoroutine") ∧
    Calls P f args c.w fun e w' => ∃ x, e = .returned x ∧ Below c.w.heap.size c.w w' ∧ sat r.res (c.to w') [x]
def cOf : List (FuncId × Con) → FuncId → AV → Option CR
  | [], _, _ => none
  | (f, k) :: r, g, l => bif Nat.beq f g then k l else cOf r g l
def AllFn (P : Program) : List (FuncId × Con) → Prop
  | [] => True
  | (f, k) :: r => FnOk P f k ∧ AllFn P r
theorem allFn_ok {P : Program} : ∀ (l : List (FuncId × Con)), AllFn P l → CallOk P (cOf l)
  | [], _ => fun f l r h => by cases h
  | (f, k) :: r, ⟨h1, h2⟩ => fun g l q h => by
    simp only [cOf] at h
    cases hb : Nat.beq f g with
    | true =>
      simp only [hb, cond_true] at h
      have := Nat.eq_of_beq_eq_true hb
      subst this; exact h1 l q h
    | false =>
      simp only [hb, cond_false] at h
      exact allFn_ok r h2 g l q h

/-- **A function's contract**, out of the run of its code. -/
theorem fnOk {P : Program} (hm : P.follows .mixedOrders = true) {tys : List (TypeId × TI)} (hT : AllTy P tys) {cs : List (FuncId × Con)} (hC : AllFn P cs) {f : FuncId} {fn : Func} {co : Code} (hf : P.funcs[f]? = some fn) (hb : fn.body = some co)
    (hname : fn.name ≠ "runtime.NumGoroutine") {N n : Nat} (hN : N = fn.ntmps) (hnN : n ≤ N) {rs : List ResultVar} (hrs : rs = fn.results.toList) {k : Con}
    (h : ∀ l r, k l = some r → lenIs l n = true ∧ shut l = true ∧ (r.pre → run ⟨tys, N, cOf cs⟩ co (argF l 0) [] 0 (fin ⟨tys, N, cOf cs⟩ rs r.res))) : FnOk P f k := by
  intro l r hk hpre c args hs hO
  obtain ⟨h1, h2, h3⟩ := h l r hk
  refine ⟨⟨fn, hf, by rw [hb]; rfl, hname⟩, ?_⟩
  subst hN hrs
  exact calls_of_run hm ⟨allTy_ok tys hT, allFn_ok cs hC⟩ hf hb rfl h1 hnN h2 (h3 hpre) c args hs hO

end Go.Proofs.Ythlkhjfilfdpiaa.Eng
