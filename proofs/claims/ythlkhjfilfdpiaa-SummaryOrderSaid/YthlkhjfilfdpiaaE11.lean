/- ENGINE, 11: codes; functions. -/
import Derived.Test.YthlkhjfilfdpiaaE10B
import Derived.LoopN
namespace Go.Proofs.Ythlkhjfilfdpiaa.Eng
set_option linter.unusedVariables false
set_option linter.unusedSimpArgs false
open Go Go.RowKit

def toExit : Ex → Exit
  | .normal => .normal
  | .ret => .ret
  | .exit n => .exit n

theorem Gam.weak {W0 : World} {X : Bd} {N : Nat} {c : Cx} {fr fr' : Fr} {hp : List AO} {nx : Nat} {a : Act} (h : Gam W0 X N c fr hp nx a) (hw : weakF fr fr') : Gam W0 X N c fr' hp nx a :=
  { h with f := fun i => (hw i).elim (fun e => by rw [e]; exact ⟨_, rfl⟩) (fun e => by rw [e]; exact h.f i) }

theorem run_ok {P : Program} {E : Env} {W0 : World} {X : Bd} (hm : P.follows .mixedOrders = true) (hE : EnvOk P E) : ∀ (co : Code) {c : Cx} {fr : Fr} {hp : List AO} {nx : Nat} {a : Act} {Q : Ex → Post} {Qe : Exit → Act → World → Prop},
    run E co fr hp nx Q → Gam W0 X E.N c fr hp nx a → (∀ ex a' w', Is W0 X E.N (Q ex) a' w' → Qe (toExit ex) a' w') → co.wp P Qe a c.w
  | .skip, c, fr, hp, nx, a, Q, Qe, hk, h, hq => wp_skip (hq .normal a c.w ⟨c, fr, hp, nx, rfl, h, hk⟩)
  | .region id ops false, c, fr, hp, nx, a, Q, Qe, hk, h, hq => wp_region_list (by
      have := runOps_ok (Qe := Qe) hE ops.toList ops.toList hk h (fun a' w' hI => hq .normal a' w' hI)
      simpa using this)
  | .region id ops true, c, fr, hp, nx, a, Q, Qe, hk, h, hq => draw_ok hm hE hk.1 h (fun hm hk => runOps_mono hm _ hk) hk.2 (fun a' w' hI => hq .normal a' w' hI)
  | .seq x y, c, fr, hp, nx, a, Q, Qe, hk, h, hq => wp_seq (run_ok hm hE x hk h (fun ex a' w' hI => by
      obtain ⟨c', fr', hp', nx', rfl, hG, hK⟩ := hI
      cases ex with
      | normal => exact run_ok hm hE y hK hG hq
      | ret => exact hq .ret _ _ ⟨c', fr', hp', nx', rfl, hG, hK⟩
      | exit n => exact hq (.exit n) _ _ ⟨c', fr', hp', nx', rfl, hG, hK⟩))
  | .cond x y z, c, fr, hp, nx, a, Q, Qe, hk, h, hq => by
    unfold run at hk
    have hx := raw_ok h x
    split at hk
    · rename_i b e
      rw [e] at hx
      exact wp_cond_split (by simpa [sat] using hx) (fun hb => run_ok hm hE y ((fork_out hk).1 hb) h hq) (fun hb => run_ok hm hE z ((fork_out hk).2 hb) h hq)
    · exact hk.elim
  | .block id x, c, fr, hp, nx, a, Q, Qe, hk, h, hq => wp_block (run_ok hm hE x hk h (fun ex a' w' hI => by
      obtain ⟨c', fr', hp', nx', rfl, hG, hK⟩ := hI
      cases ex with
      | normal => exact hq .normal _ _ ⟨c', fr', hp', nx', rfl, hG, hK⟩
      | ret => exact hq .ret _ _ ⟨c', fr', hp', nx', rfl, hG, hK⟩
      | exit n =>
        simp only [toExit, Exit.inBlock]
        cases hb : Nat.beq n id with
        | true =>
          simp only [hb, cond_true] at hK
          rw [if_pos (Nat.eq_of_beq_eq_true hb)]
          exact hq .normal _ _ ⟨c', fr', hp', nx', rfl, hG, hK⟩
        | false =>
          simp only [hb, cond_false] at hK
          rw [if_neg (fun e => by subst e; simp at hb)]
          exact hq (.exit n) _ _ ⟨c', fr', hp', nx', rfl, hG, hK⟩))
  | .loop x, c, fr, hp, nx, a, Q, Qe, hk, h, hq => by
    have hk' : loopP (run E x) fr hp nx Q := hk
    unfold loopP at hk'
    obtain ⟨I, ⟨n, fr0, hw0, hI0⟩, hround⟩ := hk'
    have key : ∀ (N n : Nat), n < N → ∀ a' w', Is W0 X E.N (I n) a' w' → Code.rounds P x Qe N a' w' := by
      intro N
      induction N with
      | zero => exact fun n hn => absurd hn (Nat.not_lt_zero _)
      | succ N ih =>
        rintro n hn a' w' ⟨c', fr', hp', nx', rfl, hG, hK⟩
        rw [rounds_succ]
        refine run_ok hm hE x (hround n fr' hp' nx' hK) hG fun ex a2 w2 hI => ?_
        obtain ⟨c2, fr2, hp2, nx2, rfl, hG2, hK2⟩ := hI
        cases ex with
        | normal =>
          obtain ⟨m, fr3, hmn, hw3, hI3⟩ := hK2
          exact ih m (by omega) _ _ ⟨c2, fr3, hp2, nx2, rfl, hG2.weak hw3, hI3⟩
        | ret => exact hq .ret _ _ ⟨c2, fr2, hp2, nx2, rfl, hG2, hK2⟩
        | exit k => exact hq (.exit k) _ _ ⟨c2, fr2, hp2, nx2, rfl, hG2, hK2⟩
    exact wp_loop_rounds (n + 1) (key (n + 1) n (Nat.lt_succ_self n) a c.w ⟨c, fr0, hp, nx, rfl, h.weak hw0, hI0⟩)
  | .exit n, c, fr, hp, nx, a, Q, Qe, hk, h, hq => wp_exit (hq (.exit n) a c.w ⟨c, fr, hp, nx, rfl, h, hk⟩)
  | .ret, c, fr, hp, nx, a, Q, Qe, hk, h, hq => wp_ret (hq .ret a c.w ⟨c, fr, hp, nx, rfl, h, hk⟩)
  | .rangeFunc _ _ _ _, _, _, _, _, _, _, _, hk, _, _ => hk.elim
  | .scope _, _, _, _, _, _, _, _, hk, _, _ => hk.elim
  | .label _, _, _, _, _, _, _, _, hk, _, _ => hk.elim
  | .goto _, _, _, _, _, _, _, _, hk, _, _ => hk.elim
  | .refuse _, _, _, _, _, _, _, _, hk, _, _ => hk.elim

/-! ### Results -/
def leV (x y : Value) : Prop :=
  match x, y with
  | .int k a, .int l b => k = l ∧ a = b
  | .bool a, .bool b => a = b
  | .string a, .string b => a = b
  | x, y => x = y
theorem leV_eq {x y : Value} (h : leV x y) : x = y := by
  unfold leV at h
  split at h
  · rw [h.1, h.2]
  · rw [h]
  · rw [h]
  · exact h
/-- What v says, w says. -/
def le : AV → AV → Prop
  | .v x, .v y => leV x y
  | .nil, .nil => True
  | .cons a b, .cons c d => le a c ∧ le b d
  | .agg a, .agg b => le a b
  | .tup a, .tup b => le a b
  | .fn f a, .fn g b => f = g ∧ le a b
  | .rd k n g, .rd k' n' g' => k = k' ∧ n = n' ∧ ∀ i, i < n → ∀ j, j < k → le (g i j) (g' i j)
  | _, _ => False

theorem le_ok : ∀ (v w : AV) {c : Cx} {vs : List Value}, le v w → sat v c vs → sat w c vs
  | .v x, w, c, vs, h, hs => by
    cases w <;> try exact h.elim
    rw [leV_eq h] at hs; exact hs
  | .nil, w, c, vs, h, hs => by cases w <;> first | exact h.elim | exact hs
  | .cons a b, w, c, vs, h, hs => by
    cases w <;> try exact h.elim
    obtain ⟨x, r, e, h1, h2⟩ := hs
    exact ⟨x, r, e, le_ok a _ h.1 h1, le_ok b _ h.2 h2⟩
  | .agg a, w, c, vs, h, hs => by
    cases w <;> try exact h.elim
    obtain ⟨cs, e, h1⟩ := hs
    exact ⟨cs, e, le_ok a _ h h1⟩
  | .tup a, w, c, vs, h, hs => by
    cases w <;> try exact h.elim
    obtain ⟨cs, e, h1⟩ := hs
    exact ⟨cs, e, le_ok a _ h h1⟩
  | .fn f a, w, c, vs, h, hs => by
    cases w <;> try exact h.elim
    obtain ⟨cs, e, h1⟩ := hs
    obtain ⟨rfl, h2⟩ := h
    exact ⟨cs, e, le_ok a _ h2 h1⟩
  | .rd k n g, w, c, vs, h, hs => by
    cases w <;> try exact h.elim
    obtain ⟨rfl, rfl, h2⟩ := h
    obtain ⟨A, m, e, hm, hall⟩ := hs
    refine ⟨A, m, e, hm, fun i hi => ?_⟩
    obtain ⟨a, ha, hsp, hO, hb, hc⟩ := hall i hi
    refine ⟨a, ha, hsp, hO, hb, fun j hj => ?_⟩
    obtain ⟨x, hx, hsx⟩ := hc j hj
    exact ⟨x, hx, le_ok (g i j) _ (h2 i hi j hj) hsx⟩
  | .u, w, _, _, h, _ => by cases w <;> exact h.elim
  | .gd _ _, w, _, _, h, _ => by cases w <;> exact h.elim
  | .ptr _ _, w, _, _, h, _ => by cases w <;> exact h.elim
  | .sc _ _ _ _, w, _, _, h, _ => by cases w <;> exact h.elim
  | .rp _ _ _, w, _, _, h, _ => by cases w <;> exact h.elim
  | .ow _, w, _, _, h, _ => by cases w <;> exact h.elim
  | .op _ _ _ _, w, _, _, h, _ => by cases w <;> exact h.elim

/-- Nothing of one's own is in it. -/
def shut : AV → Bool
  | .v _ => true
  | .nil => true
  | .cons a b => shut a && shut b
  | .agg l => shut l
  | .tup l => shut l
  | .fn _ l => shut l
  | .rd _ _ _ => true
  | _ => false

theorem shut_ok : ∀ (v : AV) {c c' : Cx} {vs : List Value}, shut v = true → c'.w = c.w → (∀ b, ¬ c.O b → ¬ c'.O b) → sat v c vs → sat v c' vs
  | .v _, _, _, _, _, _, _, h => h
  | .nil, _, _, _, _, _, _, h => h
  | .cons a b, c, c', _, hs, hw, hO, ⟨x, r, e, h1, h2⟩ => by
    simp only [shut, Bool.and_eq_true] at hs
    exact ⟨x, r, e, shut_ok a hs.1 hw hO h1, shut_ok b hs.2 hw hO h2⟩
  | .agg l, _, _, _, hs, hw, hO, ⟨cs, e, h⟩ => ⟨cs, e, shut_ok l hs hw hO h⟩
  | .tup l, _, _, _, hs, hw, hO, ⟨cs, e, h⟩ => ⟨cs, e, shut_ok l hs hw hO h⟩
  | .fn _ l, _, _, _, hs, hw, hO, ⟨cs, e, h⟩ => ⟨cs, e, shut_ok l hs hw hO h⟩
  | .rd k n g, c, c', vs, _, hw, hO, ⟨A, m, e, hm, hall⟩ => by
    have st : Step c.bare c'.bare := ⟨Nat.le_refl _, fun _ _ h => absurd h (Nat.not_lt_zero _), fun _ h => absurd h (Nat.not_lt_zero _), fun b h _ => hO b h, by show c.w.heap.size ≤ c'.w.heap.size; rw [hw]; exact Nat.le_refl _, fun b _ _ => by show c'.w.heap[b]? = c.w.heap[b]?; rw [hw]⟩
    refine ⟨A, m, e, hm, fun i hi => ?_⟩
    obtain ⟨a, ha, hsp, hOa, hb, hc⟩ := hall i hi
    refine ⟨a, ha, hsp, hO _ hOa, by rw [hw]; exact hb, fun j hj => ?_⟩
    obtain ⟨x, hx, hsx⟩ := hc j hj
    exact ⟨x, by rw [hw]; exact hx, sat_step _ st hsx⟩
  | .u, _, _, _, hs, _, _, _ => by cases hs
  | .gd _ _, _, _, _, hs, _, _, _ => by cases hs
  | .ptr _ _, _, _, _, hs, _, _, _ => by cases hs
  | .sc _ _ _ _, _, _, _, hs, _, _, _ => by cases hs
  | .rp _ _ _, _, _, _, hs, _, _, _ => by cases hs
  | .ow _, _, _, _, hs, _, _, _ => by cases hs
  | .op _ _ _ _, _, _, _, hs, _, _, _ => by cases hs

def resV (E : Env) (fr : Fr) (hp : List AO) : ResultVar → Option AV
  | .tmp t => some (look fr t)
  | .cell x t => match tyOf E.ty t with
    | some i => match loadR i hp (look fr x) with
      | .ok v => some v
      | _ => none
    | none => none
def resL (E : Env) (fr : Fr) (hp : List AO) : List ResultVar → Option AV
  | [] => some .nil
  | r :: l => match resV E fr hp r, resL E fr hp l with
    | some v, some m => some (.cons v m)
    | _, _ => none
def resAll (E : Env) (fr : Fr) (hp : List AO) : List ResultVar → Option AV
  | [r] => resV E fr hp r
  | l => (resL E fr hp l).map .tup

/-- The function's end. -/
def fin (E : Env) (rs : List ResultVar) (res : AV) : Ex → Post := fun ex fr hp nx =>
  match ex with
  | .exit _ => False
  | _ => match resAll E fr hp rs with
    | some v => shut v = true ∧ le v res
    | none => False

/-- What is asked at the end. -/
def leaf (p : Prop) : Prop := p
theorem leaf_i {p : Prop} (h : p) : leaf p := h
attribute [irreducible] leaf
def finP (E : Env) (rs : List ResultVar) (res : AV) (ex : Ex) (fr : Fr) (hp : List AO) : Prop :=
  match ex with
  | .exit _ => False
  | _ => match resAll E fr hp rs with
    | some v => shut v = true ∧ leaf (le v res)
    | none => False
theorem fin_i {E : Env} {rs : List ResultVar} {res : AV} {ex : Ex} {fr : Fr} {hp : List AO} {nx : Nat} (h : finP E rs res ex fr hp) : fin E rs res ex fr hp nx := by
  unfold finP at h
  unfold leaf at h
  exact h
theorem fin_mk {E : Env} {rs : List ResultVar} {res v : AV} {ex : Ex} {fr : Fr} {hp : List AO} {nx : Nat} (he : (match ex with | .exit _ => false | _ => true) = true) (hv : resAll E fr hp rs = some v) (hs : shut v = true) (hl : le v res) : fin E rs res ex fr hp nx := by
  unfold fin
  cases ex with
  | exit n => cases he
  | ret => simp only [hv]; exact ⟨hs, hl⟩
  | normal => simp only [hv]; exact ⟨hs, hl⟩
theorem fin_out {E : Env} {rs : List ResultVar} {res : AV} {ex : Ex} {fr : Fr} {hp : List AO} {nx : Nat} (h : fin E rs res ex fr hp nx) : (∀ n, ex ≠ .exit n) ∧ ∃ v, resAll E fr hp rs = some v ∧ shut v = true ∧ le v res := by
  unfold fin at h
  cases ex with
  | exit n => exact h.elim
  | ret =>
    simp only at h
    split at h
    · rename_i v hv; exact ⟨fun n => by simp, v, hv, h⟩
    · exact h.elim
  | normal =>
    simp only at h
    split at h
    · rename_i v hv; exact ⟨fun n => by simp, v, hv, h⟩
    · exact h.elim
attribute [irreducible] fin

/-! ### Loops -/
/-- At most so many rounds, each run. -/
def rounds (R : Fr → List AO → Nat → (Ex → Post) → Prop) (Q : Ex → Post) : Nat → Post
  | 0, _, _, _ => False
  | n + 1, fr, hp, nx => R fr hp nx fun e fr hp nx => match e with
    | .normal => rounds R Q n fr hp nx
    | .ret => Q .ret fr hp nx
    | .exit k => Q (.exit k) fr hp nx
theorem loop_rounds {R : Fr → List AO → Nat → (Ex → Post) → Prop} {fr : Fr} {hp : List AO} {nx : Nat} {Q : Ex → Post} (n : Nat) (hR : ∀ {fr hp nx} {Q Q' : Ex → Post}, (∀ e fr hp nx, Q e fr hp nx → Q' e fr hp nx) → R fr hp nx Q → R fr hp nx Q') (h : rounds R Q n fr hp nx) : loopP R fr hp nx Q := by
  unfold loopP
  refine ⟨rounds R Q, ⟨n, fr, fun i => .inr rfl, h⟩, fun n fr hp nx hn => ?_⟩
  cases n with
  | zero => exact hn.elim
  | succ n =>
    refine hR (fun e fr hp nx hq => ?_) hn
    cases e with
    | normal => exact ⟨n, fr, Nat.lt_succ_self n, fun i => .inr rfl, hq⟩
    | ret => exact hq
    | exit k => exact hq
/-- A relation over states that are told by a variable. -/
theorem loop_inv {R : Fr → List AO → Nat → (Ex → Post) → Prop} {fr : Fr} {hp : List AO} {nx : Nat} {Q : Ex → Post} {σ : Type} (F : σ → Fr) (H : σ → List AO) (M : σ → Nat) (inv : σ → Prop) (μ : σ → Nat) (x0 : σ) (h0 : inv x0) (hF : weakF fr (F x0)) (hH : hp = H x0) (hM : nx = M x0)
    (hs : ∀ x, inv x → R (F x) (H x) (M x) fun e fr hp nx => match e with
      | .normal => ∃ y, inv y ∧ μ y < μ x ∧ weakF fr (F y) ∧ hp = H y ∧ nx = M y
      | .ret => Q .ret fr hp nx
      | .exit k => Q (.exit k) fr hp nx) (hR : ∀ {fr hp nx} {Q Q' : Ex → Post}, (∀ e fr hp nx, Q e fr hp nx → Q' e fr hp nx) → R fr hp nx Q → R fr hp nx Q') : loopP R fr hp nx Q := by
  unfold loopP
  refine ⟨fun n fr hp nx => ∃ x, inv x ∧ μ x = n ∧ fr = F x ∧ hp = H x ∧ nx = M x, ⟨μ x0, F x0, hF, x0, h0, rfl, rfl, hH, hM⟩, ?_⟩
  rintro n fr hp nx ⟨x, hx, rfl, rfl, rfl, rfl⟩
  refine hR (fun e fr hp nx hq => ?_) (hs x hx)
  cases e with
  | normal =>
    obtain ⟨y, hy, hlt, hw, hh, hm⟩ := hq
    exact ⟨μ y, F y, hlt, hw, y, hy, rfl, rfl, hh, hm⟩
  | ret => exact hq
  | exit k => exact hq

/-- The parameters' slots. -/
def argF : AV → Nat → Fr
  | .cons a b, i => (i, a) :: argF b (i + 1)
  | _, _ => []

end Go.Proofs.Ythlkhjfilfdpiaa.Eng
