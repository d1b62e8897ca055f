/- ENGINE 2, 12: a function's end; its contract out of its run. -/
import Derived.Test.YthlkhjfilfdpiaaF11
namespace Go.Proofs.Ythlkhjfilfdpiaa.Eng
set_option linter.unusedVariables false
set_option linter.unusedSimpArgs false
open Go Go.RowKit

/-! ### How places are found -/
def pairsA (vn : Nat) : AV → AV → List (Nat × Nat)
  | .cons a b, .cons c d => pairsA vn a c ++ pairsA vn b d
  | .agg a, .agg b => pairsA vn a b
  | .tup a, .tup b => pairsA vn a b
  | .fn _ a, .fn _ b => pairsA vn a b
  | .gd _ a, .gd _ b => pairsA vn a b
  | .v (.slice none _ _), .ow j _ _ => [(j, vn + j)]
  | .ptr i _, .ptr j _ => [(j, i)]
  | .sc i _ _ _ _, .sc j _ _ _ _ => [(j, i)]
  | .ow i _ _, .ow j _ _ => [(j, i)]
  | .ow i _ _, .ws j _ _ _ => [(j, i)]
  | .ws i _ _ _, .ws j _ _ _ => [(j, i)]
  | .op i _ _ _, .op j _ _ _ => [(j, i)]
  | _, _ => []
def pairsF (vn : Nat) (fr : Fr) : Fr → List (Nat × Nat)
  | [] => []
  | (s, v) :: r => pairsA vn (look fr s) v ++ pairsF vn fr r
def pairsO (vn : Nat) : AO → AO → List (Nat × Nat)
  | .cells l, .cells l' => pairsA vn l l'
  | _, _ => []
def findP : List (Nat × Nat) → Nat → Option Nat
  | [], _ => none
  | (j, i) :: r, k => bif Nat.beq j k then some i else findP r k
def pairsH (hp : List AO) (ps : List (Nat × Nat)) : Nat → List AO → List (Nat × Nat)
  | _, [] => []
  | k, o :: r => (match findP ps k with | some i => pairsO (lenO hp) (getAO hp i) o | none => pairsO (lenO hp) (getAO hp k) o) ++ pairsH hp ps (k + 1) r
def piOf (ps : List (Nat × Nat)) : Nat → List AO → List Nat
  | _, [] => []
  | k, _ :: r => (match findP ps k with | some i => i | none => k) :: piOf ps (k + 1) r
/-- Rows that are to be only read. -/
def frzA : AV → AV → List Nat
  | .cons a b, .cons c d => frzA a c ++ frzA b d
  | .agg a, .agg b => frzA a b
  | .tup a, .tup b => frzA a b
  | .fn _ a, .fn _ b => frzA a b
  | .ow i _ _, .rl _ _ _ => [i]
  | .ws i _ _ _, .rl _ _ _ => [i]
  | _, _ => []
def frzF (fr : Fr) : Fr → List Nat
  | [] => []
  | (s, v) :: r => frzA (look fr s) v ++ frzF fr r
def frzO : AO → AO → List Nat
  | .cells l, .cells l' => frzA l l'
  | _, _ => []
def frzH (hp : List AO) : List Nat → List AO → List Nat
  | i :: r, o :: l => frzO (getAO hp i) o ++ frzH hp r l
  | _, _ => []

/-- What is asked at the end; where two things are the same. -/
def leaf (p : Prop) : Prop := p
theorem leaf_i {p : Prop} (h : p) : leaf p := h
theorem leaf_out {p : Prop} (h : leaf p) : p := h
attribute [irreducible] leaf

def piF (fr : Fr) (hp : List AO) (ov : Fr) (hp' : List AO) : List Nat :=
  piOf (pairsF (lenO hp) fr ov ++ pairsH hp (pairsF (lenO hp) fr ov ++ pairsH hp (pairsF (lenO hp) fr ov) 0 hp') 0 hp') 0 hp'
/-- Told in another way, the places and the rows found. -/
def slimQ (m : Nat) (base : Fr) (fr : Fr) (hp : List AO) (ov : Fr) (hp' : List AO) (π ows : List Nat) : Prop :=
  (offN (slots base) (slots ov) && fixF π base && nodupB π && allLt π (lenO hp + lenO hp') && headFix m 0 π) = true ∧
  leaf (leF (lenO hp) (frz ows (joinO hp (virt hp'))) π fr ov ∧ leH (lenO hp) (frz ows (joinO hp (virt hp'))) π π hp')
def forceL : List Nat → (List Nat → Prop) → Prop
  | [], K => K []
  | x :: r, K => forceL r fun r => K (x :: r)
theorem forceL_ok : ∀ (l : List Nat) {K : List Nat → Prop}, forceL l K → K l
  | [], _, h => h
  | x :: r, K, h => forceL_ok r (K := fun r => K (x :: r)) h
def slimP (m : Nat) (base : Fr) (fr : Fr) (hp : List AO) (ov : Fr) (hp' : List AO) : Prop :=
  forceL (piF fr hp ov hp') fun π => forceL (frzF fr ov ++ frzH hp π hp') fun ows => slimQ m base fr hp ov hp' π ows
theorem slim_s {m : Nat} {base fr ov : Fr} {hp hp' : List AO} {nx : Nat} (hsub : ∀ s, s ∈ slots base → look fr s = look base s) (h2 : slimP m base fr hp ov hp') : Slim m fr hp nx (joinF ov base) hp' (lenO hp') := by
  obtain ⟨h3, h4⟩ := forceL_ok _ (forceL_ok _ h2)
  have h5 := leaf_out h4
  refine slim_mk _ _ hsub ?_ h5.1 h5.2
  rw [h3]
  simp only [Bool.true_and]
  generalize frzF fr ov ++ frzH hp (piF fr hp ov hp') hp' = l
  induction l with
  | nil => rfl
  | cons x r ih => simp only [offN, slots, hasN, Bool.not_false, Bool.true_and]; exact ih
/-- The frame ends with what the round did not write. -/
def tailB (base fr : Fr) : Prop := dropF (subL fr base) fr = base ∧ offN (slots base) (slots (takeF (subL fr base) fr)) = true
theorem tail_sub {base fr : Fr} (h : tailB base fr) : ∀ s, s ∈ slots base → look fr s = look base s := by
  intro s hs
  have := join_take (subL fr base) fr
  rw [h.1] at this
  rw [← this]
  exact (look_join _ base s).2 (fun h' => offN_ok _ _ h.2 s hs h')

/-! ### Results -/
def resV (E : Env) (fr : Fr) (hp : List AO) : ResultVar → Option AV
  | .tmp t => some (look fr t)
  | .cell x t => match tyOf E.ty t with
    | some i => match loadR i hp (look fr x) with
      | .ok v => some v
      | _ => none
    | none => none
def resL (E : Env) (fr : Fr) (hp : List AO) : List ResultVar → Option AV
  | [] => some .nil
  | r :: l => match resV E fr hp r, resL E fr hp l with
    | some v, some m => some (.cons v m)
    | _, _ => none
def resAll (E : Env) (fr : Fr) (hp : List AO) : List ResultVar → Option AV
  | [r] => resV E fr hp r
  | l => (resL E fr hp l).map .tup

def piE (hp : List AO) (m : Nat) (v : AV) (r : CR) : List Nat :=
  piOf (pairsA (lenO hp) v r.res ++ pairsH hp (pairsA (lenO hp) v r.res) 0 (joinO r.lent r.new)) 0 (joinO r.lent r.new)
def endQ (hp : List AO) (m : Nat) (v : AV) (r : CR) (π ows : List Nat) : Prop :=
  (nodupB π && allLt π (lenO hp + lenO (joinO r.lent r.new)) && headFix m 0 π && Nat.beq (lenO r.lent) m) = true ∧
  leaf (leA (lenO hp) (frz ows (joinO hp (virt (joinO r.lent r.new)))) π v r.res ∧ leH (lenO hp) (frz ows (joinO hp (virt (joinO r.lent r.new)))) π π (joinO r.lent r.new))
def endP (hp : List AO) (m : Nat) (v : AV) (r : CR) : Prop :=
  forceL (piE hp m v r) fun π => forceL (frzA v r.res ++ frzH hp π (joinO r.lent r.new)) fun ows => endQ hp m v r π ows

/-- The function's end. -/
def fin (E : Env) (rs : List ResultVar) (r : CR) : Ex → Post := fun ex fr hp nx =>
  match ex with
  | .exit _ => False
  | .goto _ => False
  | _ => match resAll E fr hp rs with
    | some v => endP hp E.m v r
    | none => False
def finP (E : Env) (rs : List ResultVar) (r : CR) (ex : Ex) (fr : Fr) (hp : List AO) : Prop :=
  match ex with
  | .exit _ => False
  | .goto _ => False
  | _ => match resAll E fr hp rs with
    | some v => endP hp E.m v r
    | none => False
theorem fin_i {E : Env} {rs : List ResultVar} {r : CR} {ex : Ex} {fr : Fr} {hp : List AO} {nx : Nat} (h : finP E rs r ex fr hp) : fin E rs r ex fr hp nx := h
theorem fin_out {E : Env} {rs : List ResultVar} {r : CR} {ex : Ex} {fr : Fr} {hp : List AO} {nx : Nat} (h : fin E rs r ex fr hp nx) : ((∀ n, ex ≠ .exit n) ∧ ∀ n, ex ≠ .goto n) ∧ ∃ v, resAll E fr hp rs = some v ∧ endP hp E.m v r := by
  unfold fin at h
  cases ex with
  | exit n => exact h.elim
  | goto n => exact h.elim
  | ret =>
    simp only at h
    split at h
    · rename_i v hv; exact ⟨⟨fun n => by simp, fun n => by simp⟩, v, hv, h⟩
    · exact h.elim
  | normal =>
    simp only at h
    split at h
    · rename_i v hv; exact ⟨⟨fun n => by simp, fun n => by simp⟩, v, hv, h⟩
    · exact h.elim
attribute [irreducible] fin

/-! ### Loops -/
/-- At most so many rounds, each run. -/
def rounds (R : Fr → List AO → Nat → (Ex → Post) → Prop) (Q : Ex → Post) : Nat → Post
  | 0, _, _, _ => False
  | n + 1, fr, hp, nx => R fr hp nx fun e fr hp nx => match e with
    | .normal => rounds R Q n fr hp nx
    | .ret => Q .ret fr hp nx
    | .exit k => Q (.exit k) fr hp nx
    | .goto k => Q (.goto k) fr hp nx
theorem slim_refl (m : Nat) (fr : Fr) (hp : List AO) (nx : Nat) : Slim m fr hp nx fr hp nx := fun _ _ _ c _ _ h => ⟨c, rfl, rfl, h⟩
theorem loop_rounds {m : Nat} {base : Fr} {R : Fr → List AO → Nat → (Ex → Post) → Prop} {fr : Fr} {hp : List AO} {nx : Nat} {Q : Ex → Post} (n : Nat) (hR : ∀ {fr hp nx} {Q Q' : Ex → Post}, (∀ e fr hp nx, Q e fr hp nx → Q' e fr hp nx) → R fr hp nx Q → R fr hp nx Q') (h : rounds R Q n fr hp nx) : loopP m base R fr hp nx Q := by
  unfold loopP
  refine ⟨rounds R Q, fun _ => ⟨n, fr, hp, nx, slim_refl _ _ _ _, h⟩, fun n fr hp nx hn => ?_⟩
  cases n with
  | zero => exact hn.elim
  | succ n =>
    refine hR (fun e fr hp nx hq => ?_) hn
    cases e with
    | normal => exact ⟨n, fr, hp, nx, Nat.lt_succ_self n, slim_refl _ _ _ _, hq⟩
    | ret => exact hq
    | exit k => exact hq
    | goto k => exact hq
/-- A relation over states that are told by a variable. -/
theorem loop_inv {m : Nat} {base : Fr} {R : Fr → List AO → Nat → (Ex → Post) → Prop} {fr : Fr} {hp : List AO} {nx : Nat} {Q : Ex → Post} {σ : Type} (F : σ → Fr) (H : σ → List AO) (inv : σ → Prop) (μ : σ → Nat) (x0 : σ) (h0 : inv x0) (hS : (∀ s, s ∈ slots base → look fr s = look base s) → Slim m fr hp nx (joinF (F x0) base) (H x0) (lenO (H x0)))
    (hs : ∀ x, inv x → R (joinF (F x) base) (H x) (lenO (H x)) fun e fr hp nx => match e with
      | .normal => ∃ y, inv y ∧ μ y < μ x ∧ Slim m fr hp nx (joinF (F y) base) (H y) (lenO (H y))
      | .ret => Q .ret fr hp nx
      | .exit k => Q (.exit k) fr hp nx
      | .goto k => Q (.goto k) fr hp nx) (hR : ∀ {fr hp nx} {Q Q' : Ex → Post}, (∀ e fr hp nx, Q e fr hp nx → Q' e fr hp nx) → R fr hp nx Q → R fr hp nx Q') : loopP m base R fr hp nx Q := by
  unfold loopP
  refine ⟨fun n fr hp nx => ∃ x, inv x ∧ μ x = n ∧ fr = joinF (F x) base ∧ hp = H x ∧ nx = lenO (H x), fun hsub => ⟨μ x0, _, _, _, hS hsub, x0, h0, rfl, rfl, rfl, rfl⟩, ?_⟩
  rintro n fr hp nx ⟨x, hx, rfl, rfl, rfl, rfl⟩
  refine hR (fun e fr hp nx hq => ?_) (hs x hx)
  cases e with
  | normal =>
    obtain ⟨y, hy, hlt, hw⟩ := hq
    exact ⟨μ y, _, _, _, hlt, hw, y, hy, rfl, rfl, rfl, rfl⟩
  | ret => exact hq
  | exit k => exact hq
  | goto k => exact hq

/-- The parameters' slots. -/
def argF : AV → Nat → Fr
  | .cons a b, i => (i, a) :: argF b (i + 1)
  | _, _ => []

theorem loadR_ok {P : Program} {W0 : World} {X : Bd} {N : Nat} {c : Cx} {fr : Fr} {hp : List AO} {nx : Nat} {a : Act} (h : Gam W0 X N c fr hp nx a) (t : TypeId) (i : TI) (hi : TIok P t i) {r v : AV} {y : Value} (hx : sat r c [y]) (hv : loadR i hp r = .ok v) :
    ∃ x, (loadVar t =<< asAddr y).run P c.w = .ok x c.w ∧ sat v c [x] := by
  have key := good_load (P := P) (o := { (default : Oper) with op := .load t (.const y) }) (a := a) (ρ := fun _ => r) h t (.const y) rfl i hi hx
  rw [hv] at key
  obtain ⟨x, hr, hs⟩ := key
  refine ⟨x, ?_, hs⟩
  unfold execOp at hr
  simp only [Act.eval, Instr.loadAt, Sem.run_bind] at hr
  have hy : ∃ ad, y = .pointer (some ad) := by
    unfold Instr.sureAddr at hr
    cases y <;> first | (simp [stuck, Sem.run] at hr; done) | skip
    rename_i p
    cases p with
    | none => simp [stuck, Sem.run] at hr
    | some ad => exact ⟨ad, rfl⟩
  obtain ⟨ad, rfl⟩ := hy
  simp only [Instr.sureAddr, asAddr, Sem.run_pure, Result.andThen_ok, Sem.run_bind, Bind.bind, bind] at hr ⊢
  cases hl : (loadVar t ad).run P c.w with
  | ok z w' =>
    rw [hl] at hr
    simp [Result.andThen] at hr
    simp [Functor.map, Bind.bindLeft, Sem.run_bind, Sem.run_pure, hl, hr]
  | halt z w' =>
    rw [hl] at hr
    simp [Result.andThen] at hr

section
variable {P : Program} {E : Env} {W0 : World} {X : Bd} {c : Cx} {fr : Fr} {hp : List AO} {nx : Nat} {a : Act}

def resF (tmps : Array Value) : ResultVar → Sem Value
  | .tmp t => pure (tmps.getD t undef)
  | .cell x t => do loadVar t (← asAddr (tmps.getD x undef))

theorem resV_ok (hE : EnvOk P E) (h : Gam W0 X E.N c fr hp nx a) (r : ResultVar) {v : AV} (hv : resV E fr hp r = some v) : ∃ x, (resF a.tmps r).run P c.w = .ok x c.w ∧ sat v c [x] := by
  cases r with
  | tmp t =>
    injection hv with hv
    subst hv
    exact ⟨_, rfl, h.f t⟩
  | cell q t =>
    simp only [resV] at hv
    cases ht : tyOf E.ty t with
    | none => simp [ht] at hv
    | some i =>
      simp only [ht] at hv
      cases hl : loadR i hp (look fr q) with
      | ok y =>
        simp only [hl, Option.some.injEq] at hv
        subst hv
        obtain ⟨x, hr, hs⟩ := loadR_ok h t i (hE.ty t i ht) (h.f q) hl
        exact ⟨x, hr, hs⟩
      | _ => simp [hl] at hv

theorem resL_ok (hE : EnvOk P E) (h : Gam W0 X E.N c fr hp nx a) : ∀ (l : List ResultVar) {m : AV}, resL E fr hp l = some m → ∃ vs : List Value, (l.mapM (resF a.tmps)).run P c.w = .ok vs c.w ∧ sat m c vs ∧ vs.length = l.length
  | [], m, hm => by
    injection hm with hm
    subst hm
    exact ⟨[], rfl, rfl, rfl⟩
  | r :: l, m, hm => by
    simp only [resL] at hm
    cases hv : resV E fr hp r with
    | none => simp [hv] at hm
    | some v =>
      cases hl : resL E fr hp l with
      | none => simp [hv, hl] at hm
      | some q =>
        simp only [hv, hl, Option.some.injEq] at hm
        subst hm
        obtain ⟨x, hr, hs⟩ := resV_ok hE h r hv
        obtain ⟨vs, hrs, hss, hln⟩ := resL_ok hE h l hl
        refine ⟨x :: vs, ?_, ⟨x, vs, rfl, hs, hss⟩, by simp [hln]⟩
        simp only [List.mapM_cons, Sem.run_bind, hr, Result.andThen_ok, hrs, Sem.run_pure]

theorem results_ok (hE : EnvOk P E) (h : Gam W0 X E.N c fr hp nx a) (fn : Func) {v : AV} (hv : resAll E fr hp fn.results.toList = some v) : ∃ x, (results fn a.tmps).run P c.w = .ok x c.w ∧ sat v c [x] := by
  have hres : ∀ vs : List Value, (fn.results.toList.mapM (resF a.tmps)).run P c.w = .ok vs c.w → (results fn a.tmps).run P c.w = .ok (if h : vs.toArray.size = 1 then vs.toArray[0] else .tuple vs.toArray) c.w := by
    intro vs hvs
    unfold results
    rw [Sem.run_bind, Array.mapM_eq_mapM_toList, Sem.run_map]
    rw [show (List.mapM _ fn.results.toList : Sem (List Value)) = fn.results.toList.mapM (resF a.tmps) from congrArg (fun g => List.mapM g fn.results.toList) (funext fun r => by cases r <;> rfl), hvs]
    rfl
  cases hl : fn.results.toList with
  | nil =>
    rw [hl] at hv
    simp only [resAll, resL, Option.map_some, Option.some.injEq] at hv
    subst hv
    refine ⟨_, hres [] (by rw [hl]; rfl), ⟨#[], by simp, rfl⟩⟩
  | cons r l =>
    cases l with
    | nil =>
      rw [hl] at hv
      obtain ⟨x, hr, hs⟩ := resV_ok hE h r hv
      exact ⟨x, by simpa using hres [x] (by rw [hl]; simp [List.mapM_cons, Sem.run_bind, hr]), hs⟩
    | cons r2 l =>
      rw [hl] at hv
      simp only [resAll, Option.map_eq_some_iff] at hv
      obtain ⟨m, hm, rfl⟩ := hv
      obtain ⟨vs, hrs, hss, hln⟩ := resL_ok hE h _ hm
      refine ⟨_, hres vs (by rw [hl]; exact hrs), ?_⟩
      have : ¬ vs.toArray.size = 1 := by simp [hln]
      rw [dif_neg this]
      exact ⟨vs.toArray, rfl, by simpa using hss⟩

theorem argF_look (h : sat (.u) c [undef]) : ∀ (l : AV) (args : List Value) (k : Nat) (tm : Array Value), sat l c args → (∀ j v, args[j]? = some v → tm.getD (k + j) undef = v) → ∀ i, sat (look (argF l k) i) c [tm.getD i undef]
  | .cons p q, args, k, tm, ⟨x, r, e, h1, h2⟩, hj, i => by
    subst e
    simp only [argF, look]
    by_cases hki : k = i
    · subst hki
      have := hj 0 x rfl
      simp only [Nat.add_zero] at this
      simp [this, h1]
    · simp only [beq_ne hki, cond_false]
      exact argF_look h q r (k + 1) tm h2 (fun j v hv => by rw [show k + 1 + j = k + (j + 1) by omega]; exact hj (j + 1) v (by simpa using hv)) i
  | .nil, _, _, _, _, _, _ => ⟨_, rfl⟩
  | .em, _, _, _, _, _, _ => ⟨_, rfl⟩
  | .u, _, _, _, _, _, _ => ⟨_, rfl⟩
  | .v _, _, _, _, _, _, _ => ⟨_, rfl⟩
  | .agg _, _, _, _, _, _, _ => ⟨_, rfl⟩
  | .tup _, _, _, _, _, _, _ => ⟨_, rfl⟩
  | .fn _ _, _, _, _, _, _, _ => ⟨_, rfl⟩
  | .gd _ _, _, _, _, _, _, _ => ⟨_, rfl⟩
  | .ptr _ _, _, _, _, _, _, _ => ⟨_, rfl⟩
  | .sc _ _ _ _ _, _, _, _, _, _, _ => ⟨_, rfl⟩
  | .rl _ _ _, _, _, _, _, _, _ => ⟨_, rfl⟩
  | .rc _ _ _, _, _, _, _, _, _ => ⟨_, rfl⟩
  | .rp _ _ _, _, _, _, _, _, _ => ⟨_, rfl⟩
  | .ow _ _ _, _, _, _, _, _, _ => ⟨_, rfl⟩
  | .ws _ _ _ _, _, _, _, _, _, _ => ⟨_, rfl⟩
  | .op _ _ _ _, _, _, _, _, _, _ => ⟨_, rfl⟩

/-- **A function's contract**: its code's run from its arguments comes to the result. -/
theorem calls_of_run (hm : P.follows .mixedOrders = true) (hE : EnvOk P E) {f : FuncId} {fn : Func} {co : Code} (hf : P.funcs[f]? = some fn) (hb : fn.body = some co) (hN : E.N = fn.ntmps) {l : AV} {r : CR} {hp : List AO} {n : Nat} (hn : lenIs l n = true) (hnN : n ≤ fn.ntmps) (hEm : E.m = hp.length)
    (hk : runT E co (argF l 0) hp hp.length (fin E fn.results.toList r)) (c : Cx) (args : Array Value) (hs : sat l c args.toList) (hob : Obs c hp) :
    Calls P f args c.w fun e w' => ∃ x c', e = .returned x ∧ c'.w = w' ∧ Ext c c' ∧ Obs c' (r.lent ++ r.new) ∧ r.lent.length = hp.length ∧ sat r.res c' [x] := by
  have hsz : args.size = n := by simpa using lenIs_ok l n hn hs
  let lk : Nat → Prop := fun b => ∃ i, i < c.n ∧ c.key i = some b
  let X : Bd := ⟨lk, fun b => c.O b ∧ ¬ lk b, c.O, hp.length, c.loc, c.val, c.len, c.b0⟩
  refine calls_of_wp hf hb ?_
  have hG : Gam c.w X E.N c (argF l 0) hp hp.length { tmps := args ++ Array.replicate (fn.ntmps - args.size) undef, defers := [] } := by
    refine ⟨rfl, by simp [hN]; omega, argF_look ⟨_, rfl⟩ l args.toList 0 _ hs (fun j v hv => ?_), rfl, hob, fun i b hi hk _ => ⟨i, hi, hk⟩, fun b hy => hy.1, fun b hO _ => hO, fun b hy => ⟨hob.ol b hy.1, hy.2⟩, hob.bz, fun i hi => ⟨by rw [hob.nc]; exact hi, fun b hb => hb, fun _ => ⟨rfl, rfl⟩⟩, rfl, rfl, rfl, rfl, Nat.le_refl _, fun b _ _ => rfl, Nat.le_refl _⟩
    have hj : j < args.size := by simpa using (List.getElem?_eq_some_iff.1 hv).1
    have hv' : args[j]? = some v := by simpa using hv
    simp [Array.getD, show j < args.size + (fn.ntmps - args.size) by omega, Array.getElem_append_left hj]
    simpa [hj] using hv'
  refine runT_ok (c := c) (X := X) hm hE (Nat.le_of_eq hEm.symm) co hk hG fun ex a' w' hI => ?_
  obtain ⟨c', fr', hp', nx', rfl, hG', hK⟩ := hI
  have hend : ∀ v, resAll E fr' hp' fn.results.toList = some v → endP hp' E.m v r → bodyPost P fn (fun e w' => ∃ x c', e = .returned x ∧ c'.w = w' ∧ Ext c c' ∧ Obs c' (r.lent ++ r.new) ∧ r.lent.length = hp.length ∧ sat r.res c' [x]) (toExit .ret) a' c'.w := by
    intro v hv hEnd
    obtain ⟨hchk, hle⟩ := forceL_ok _ (forceL_ok _ hEnd)
    obtain ⟨x, hr, hx⟩ := results_ok hE hG' fn hv
    obtain ⟨hleA, hleH⟩ := leaf_out hle
    simp only [Bool.and_eq_true] at hchk
    obtain ⟨⟨⟨k1, k2⟩, k3⟩, k4⟩ := hchk
    obtain ⟨c0, w0, e0, v0, g0, s0⟩ := hG'.adopt (virt (joinO r.lent r.new)) (vn := hp'.length) (Nat.le_refl _) (fun i hi hin => by rw [hG'.nc] at hin; omega) (virt_ok _)
    rw [lenO_eq, joinO_eq hp'] at hleA hleH
    obtain ⟨c1, w1, n1, v1, e1, kk1, kk, g1, s1, ln1, o1, f1⟩ := g0.freeze (frzA v r.res ++ frzH hp' (piE hp' E.m v r) (joinO r.lent r.new))
    have hV1 : Vn c1 hp'.length := fun i hi hin => by
      rw [n1] at hin
      obtain ⟨q1, q2⟩ := v0 i hi hin
      obtain ⟨q3, q4⟩ := s1.val i hin (by rw [q1]; simp)
      exact ⟨q3.trans q1, q4.trans q2⟩
    have hxs : sat v c1 [x] := sat_step v s1 (sat_step v s0 hx)
    have hfix : ∀ j, j < X.m → (piE hp' E.m v r)[j]? = some j := fun j hj => by have := headFix_ok E.m 0 _ k3 j (by rw [hEm]; exact hj); rwa [Nat.zero_add] at this
    have hlt : ∀ i ∈ piE hp' E.m v r, i < (frz (frzA v r.res ++ frzH hp' (piE hp' E.m v r) (joinO r.lent r.new)) (hp' ++ virt (joinO r.lent r.new))).length := fun i hi => by
      rw [ln1, List.length_append, virt_len]; have := allLt_ok _ _ k2 i hi; rwa [lenO_eq, lenO_eq] at this
    have hlt2 : ∀ i ∈ piE hp' E.m v r, i < c1.n := fun i hi => by rw [g1.nc]; exact hlt i hi
    have g2 := g1.pulled (fr' := []) hV1 (nodupB_ok _ k1) hlt hfix hleH (fun s x hs => ⟨x, rfl⟩)
    have hres := leA_ok g1.ob hV1 hlt2 v r.res hleA hxs
    have hll : r.lent.length = hp.length := by rw [← lenO_eq, Nat.eq_of_beq_eq_true k4, hEm]
    refine ⟨hG'.d, x, hr, x, c1.pull (piE hp' E.m v r), rfl, w1.trans w0, ⟨g2.os, g2.tp, g2.ou, g2.sz, ?_, fun i b hi hb => ?_, fun i hi hv => ?_, ?_, fun b hb hno => g2.kp b hb (fun ⟨i, hi, hk⟩ => hno i hi hk), fun b hb hO => g2.oz b hO hb, fun b hO hno => g2.oo b ⟨hO, fun ⟨i, hi, hk⟩ => hno i hi hk⟩, fun i b hi hk hb => g2.kx i b hi hk hb, g2.dr⟩, by have := g2.ob; rwa [joinO_eq] at this, hll, hres⟩
    · rw [hob.nc]
      rcases Nat.eq_zero_or_pos hp.length with h0 | h0
      · omega
      · have := (g2.st (hp.length - 1) (by show hp.length - 1 < hp.length; omega)).1
        omega
    · exact (g2.st i (by rw [hob.nc] at hi; exact hi)).2.1 b hb
    · exact (g2.st i (by rw [hob.nc] at hi; exact hi)).2.2 hv
    · exact g2.bb
  obtain ⟨hne, v, hv, hend'⟩ := fin_out hK
  cases ex with
  | exit n => exact absurd rfl (hne.1 n)
  | goto n => exact absurd rfl (hne.2 n)
  | ret => exact hend v hv hend'
  | normal => exact hend v hv hend'
end

end Go.Proofs.Ythlkhjfilfdpiaa.Eng
