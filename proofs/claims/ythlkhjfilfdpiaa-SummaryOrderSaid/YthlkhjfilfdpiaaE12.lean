/- ENGINE, 12: a function's contract out of its run. -/
import Derived.Test.YthlkhjfilfdpiaaE11
namespace Go.Proofs.Ythlkhjfilfdpiaa.Eng
set_option linter.unusedVariables false
set_option linter.unusedSimpArgs false
open Go Go.RowKit

theorem loadR_ok {P : Program} {W0 : World} {X : Bd} {N : Nat} {c : Cx} {fr : Fr} {hp : List AO} {nx : Nat} {a : Act} (h : Gam W0 X N c fr hp nx a) (t : TypeId) (i : TI) (hi : TIok P t i) {r v : AV} {y : Value} (hx : sat r c [y]) (hv : loadR i hp r = .ok v) :
    ∃ x, (loadVar t =<< asAddr y).run P c.w = .ok x c.w ∧ sat v c [x] := by
  have key := good_load (P := P) (o := { (default : Oper) with op := .load t (.const y) }) (a := a) (ρ := fun _ => r) h t (.const y) rfl i hi hx
  rw [hv] at key
  obtain ⟨x, hr, hs⟩ := key
  refine ⟨x, ?_, hs⟩
  unfold execOp at hr
  simp only [Act.eval, Instr.loadAt, Sem.run_bind] at hr
  have hy : ∃ ad, y = .pointer (some ad) := by
    unfold Instr.sureAddr at hr
    cases y <;> first | (simp [stuck, Sem.run] at hr; done) | skip
    rename_i p
    cases p with
    | none => simp [stuck, Sem.run] at hr
    | some ad => exact ⟨ad, rfl⟩
  obtain ⟨ad, rfl⟩ := hy
  simp only [Instr.sureAddr, asAddr, Sem.run_pure, Result.andThen_ok, Sem.run_bind, Bind.bind, bind] at hr ⊢
  cases hl : (loadVar t ad).run P c.w with
  | ok z w' =>
    rw [hl] at hr
    simp [Result.andThen] at hr
    simp [Functor.map, Bind.bindLeft, Sem.run_bind, Sem.run_pure, hl, hr]
  | halt z w' =>
    rw [hl] at hr
    simp [Result.andThen] at hr

section
variable {P : Program} {E : Env} {W0 : World} {X : Bd} {c : Cx} {fr : Fr} {hp : List AO} {nx : Nat} {a : Act}

def resF (tmps : Array Value) : ResultVar → Sem Value
  | .tmp t => pure (tmps.getD t undef)
  | .cell x t => do loadVar t (← asAddr (tmps.getD x undef))

theorem resV_ok (hE : EnvOk P E) (h : Gam W0 X E.N c fr hp nx a) (r : ResultVar) {v : AV} (hv : resV E fr hp r = some v) : ∃ x, (resF a.tmps r).run P c.w = .ok x c.w ∧ sat v c [x] := by
  cases r with
  | tmp t =>
    injection hv with hv
    subst hv
    exact ⟨_, rfl, h.f t⟩
  | cell q t =>
    simp only [resV] at hv
    cases ht : tyOf E.ty t with
    | none => simp [ht] at hv
    | some i =>
      simp only [ht] at hv
      cases hl : loadR i hp (look fr q) with
      | ok y =>
        simp only [hl, Option.some.injEq] at hv
        subst hv
        obtain ⟨x, hr, hs⟩ := loadR_ok h t i (hE.ty t i ht) (h.f q) hl
        exact ⟨x, hr, hs⟩
      | _ => simp [hl] at hv

theorem resL_ok (hE : EnvOk P E) (h : Gam W0 X E.N c fr hp nx a) : ∀ (l : List ResultVar) {m : AV}, resL E fr hp l = some m → ∃ vs : List Value, (l.mapM (resF a.tmps)).run P c.w = .ok vs c.w ∧ sat m c vs ∧ vs.length = l.length
  | [], m, hm => by
    injection hm with hm
    subst hm
    exact ⟨[], rfl, rfl, rfl⟩
  | r :: l, m, hm => by
    simp only [resL] at hm
    cases hv : resV E fr hp r with
    | none => simp [hv] at hm
    | some v =>
      cases hl : resL E fr hp l with
      | none => simp [hv, hl] at hm
      | some q =>
        simp only [hv, hl, Option.some.injEq] at hm
        subst hm
        obtain ⟨x, hr, hs⟩ := resV_ok hE h r hv
        obtain ⟨vs, hrs, hss, hln⟩ := resL_ok hE h l hl
        refine ⟨x :: vs, ?_, ⟨x, vs, rfl, hs, hss⟩, by simp [hln]⟩
        simp only [List.mapM_cons, Sem.run_bind, hr, Result.andThen_ok, hrs, Sem.run_pure]

theorem results_ok (hE : EnvOk P E) (h : Gam W0 X E.N c fr hp nx a) (fn : Func) {v : AV} (hv : resAll E fr hp fn.results.toList = some v) : ∃ x, (results fn a.tmps).run P c.w = .ok x c.w ∧ sat v c [x] := by
  have hres : ∀ vs : List Value, (fn.results.toList.mapM (resF a.tmps)).run P c.w = .ok vs c.w → (results fn a.tmps).run P c.w = .ok (if h : vs.toArray.size = 1 then vs.toArray[0] else .tuple vs.toArray) c.w := by
    intro vs hvs
    unfold results
    rw [Sem.run_bind, Array.mapM_eq_mapM_toList, Sem.run_map]
    rw [show (List.mapM _ fn.results.toList : Sem (List Value)) = fn.results.toList.mapM (resF a.tmps) from congrArg (fun g => List.mapM g fn.results.toList) (funext fun r => by cases r <;> rfl), hvs]
    rfl
  cases hl : fn.results.toList with
  | nil =>
    rw [hl] at hv
    simp only [resAll, resL, Option.map_some, Option.some.injEq] at hv
    subst hv
    refine ⟨_, hres [] (by rw [hl]; rfl), ⟨#[], by simp, rfl⟩⟩
  | cons r l =>
    cases l with
    | nil =>
      rw [hl] at hv
      obtain ⟨x, hr, hs⟩ := resV_ok hE h r hv
      exact ⟨x, by simpa using hres [x] (by rw [hl]; simp [List.mapM_cons, Sem.run_bind, hr]), hs⟩
    | cons r2 l =>
      rw [hl] at hv
      simp only [resAll, Option.map_eq_some_iff] at hv
      obtain ⟨m, hm, rfl⟩ := hv
      obtain ⟨vs, hrs, hss, hln⟩ := resL_ok hE h _ hm
      refine ⟨_, hres vs (by rw [hl]; exact hrs), ?_⟩
      have : ¬ vs.toArray.size = 1 := by simp [hln]
      rw [dif_neg this]
      exact ⟨vs.toArray, rfl, by simpa using hss⟩

theorem argF_look (h : sat (.u) c [undef]) : ∀ (l : AV) (args : List Value) (k : Nat) (tm : Array Value), sat l c args → (∀ j v, args[j]? = some v → tm.getD (k + j) undef = v) → ∀ i, sat (look (argF l k) i) c [tm.getD i undef]
  | .cons p q, args, k, tm, ⟨x, r, e, h1, h2⟩, hj, i => by
    subst e
    simp only [argF, look]
    by_cases hki : k = i
    · subst hki
      have := hj 0 x rfl
      simp only [Nat.add_zero] at this
      simp [this, h1]
    · simp only [beq_ne hki, cond_false]
      exact argF_look h q r (k + 1) tm h2 (fun j v hv => by rw [show k + 1 + j = k + (j + 1) by omega]; exact hj (j + 1) v (by simpa using hv)) i
  | .nil, _, _, _, _, _, _ => ⟨_, rfl⟩
  | .u, _, _, _, _, _, _ => ⟨_, rfl⟩
  | .v _, _, _, _, _, _, _ => ⟨_, rfl⟩
  | .agg _, _, _, _, _, _, _ => ⟨_, rfl⟩
  | .tup _, _, _, _, _, _, _ => ⟨_, rfl⟩
  | .fn _ _, _, _, _, _, _, _ => ⟨_, rfl⟩
  | .gd _ _, _, _, _, _, _, _ => ⟨_, rfl⟩
  | .ptr _ _, _, _, _, _, _, _ => ⟨_, rfl⟩
  | .sc _ _ _ _, _, _, _, _, _, _ => ⟨_, rfl⟩
  | .rd _ _ _, _, _, _, _, _, _ => ⟨_, rfl⟩
  | .rp _ _ _, _, _, _, _, _, _ => ⟨_, rfl⟩
  | .ow _, _, _, _, _, _, _ => ⟨_, rfl⟩
  | .op _ _ _ _, _, _, _, _, _, _ => ⟨_, rfl⟩

/-- **A function's contract**: its code's run from its arguments comes to the result. -/
theorem calls_of_run (hm : P.follows .mixedOrders = true) (hE : EnvOk P E) {f : FuncId} {fn : Func} {co : Code} (hf : P.funcs[f]? = some fn) (hb : fn.body = some co) (hN : E.N = fn.ntmps) {l res : AV} {n : Nat} (hn : lenIs l n = true) (hnN : n ≤ fn.ntmps) (hsh : shut l = true)
    (hk : run E co (argF l 0) [] 0 (fin E fn.results.toList res)) (c : Cx) (args : Array Value) (hs : sat l c args.toList) (hO : ∀ b, c.O b → b < c.w.heap.size) :
    Calls P f args c.w fun e w' => ∃ x, e = .returned x ∧ Below c.w.heap.size c.w w' ∧ sat res (c.to w') [x] := by
  let c0 : Cx := ⟨c.w, fun _ => none, fun _ => .bool false, 0, c.O, fun _ => rfl⟩
  have hs0 : sat l c0 args.toList := shut_ok (c := c) (c' := c0) l hsh rfl (fun b h => h) hs
  have hsz : args.size = n := by simpa using lenIs_ok l n hn hs
  let X : Bd := ⟨fun _ => False, c.O⟩
  refine calls_of_wp hf hb ?_
  have hG : Gam c.w X E.N c0 (argF l 0) [] 0 { tmps := args ++ Array.replicate (fn.ntmps - args.size) undef, defers := [] } := by
    refine ⟨rfl, by simp [hN]; omega, argF_look ⟨_, rfl⟩ l args.toList 0 _ hs0 (fun j v hv => ?_), rfl, rfl, fun i o h => by simp at h, fun i j b hi => absurd hi (Nat.not_lt_zero _), fun i b hi => absurd hi (Nat.not_lt_zero _), hO, fun b h => h, rfl, rfl, rfl, Nat.le_refl _, fun b _ _ => rfl⟩
    have hj : j < args.size := by simpa using (List.getElem?_eq_some_iff.1 hv).1
    have hv' : args[j]? = some v := by simpa using hv
    simp [Array.getD, show j < args.size + (fn.ntmps - args.size) by omega, Array.getElem_append_left hj]
    simpa [hj] using hv'
  refine run_ok (c := c0) hm hE co hk hG fun ex a' w' hI => ?_
  obtain ⟨c', fr', hp', nx', rfl, hG', hK⟩ := hI
  have hend : ∀ v, resAll E fr' hp' fn.results.toList = some v → shut v = true ∧ le v res → bodyPost P fn (fun e w' => ∃ x, e = .returned x ∧ Below c.w.heap.size c.w w' ∧ sat res (c.to w') [x]) (toExit .ret) a' c'.w := by
    rintro v hv ⟨hsv, hle⟩
    obtain ⟨x, hr, hx⟩ := results_ok hE hG' fn hv
    refine ⟨hG'.d, x, hr, x, rfl, ⟨hG'.os, hG'.tp, hG'.ou, hG'.sz, fun k hk => hG'.kp k hk (fun h => h)⟩, ?_⟩
    refine le_ok v res hle (shut_ok (c := c') (c' := c.to c'.w) v hsv rfl (fun b hb hc => hb (hG'.oo b hc)) hx)
  obtain ⟨hne, v, hv, hsv, hle⟩ := fin_out hK
  cases ex with
  | exit n => exact absurd rfl (hne n)
  | ret => exact hend v hv ⟨hsv, hle⟩
  | normal => exact hend v hv ⟨hsv, hle⟩
end

end Go.Proofs.Ythlkhjfilfdpiaa.Eng
