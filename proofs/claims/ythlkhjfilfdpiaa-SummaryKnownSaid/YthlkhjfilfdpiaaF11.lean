/- ENGINE 2, 11: codes; what is told in another way. -/
import Derived.Test.YthlkhjfilfdpiaaF10C
import Derived.LoopN
import Derived.Scope
namespace Go.Proofs.Ythlkhjfilfdpiaa.Eng
set_option linter.unusedVariables false
set_option linter.unusedSimpArgs false
open Go Go.RowKit

def toExit : Ex → Exit
  | .normal => .normal
  | .ret => .ret
  | .exit n => .exit n
  | .goto n => .goto n

theorem cutF_ok : ∀ (fr : Fr) (wr : List Nat) {K : Fr → Prop}, cutF wr fr K → ∃ base, K base ∧ ∀ s, s ∈ slots base → look fr s = look base s ∧ ¬ s ∈ wr
  | [], _, _, h => ⟨[], h, fun s hs => absurd hs (by simp [slots])⟩
  | (s, v) :: r, wr, K, h => by
    unfold cutF at h
    cases hw : hasN wr s with
    | true =>
      rw [hw] at h
      obtain ⟨b, hb, hs⟩ := cutF_ok r wr h
      refine ⟨b, hb, fun t ht => ?_⟩
      obtain ⟨h1, h2⟩ := hs t ht
      have : s ≠ t := fun e => h2 (e ▸ (hasN_iff wr s).1 hw)
      exact ⟨by simp only [look, beq_ne this, cond_false]; exact h1, h2⟩
    | false =>
      rw [hw] at h
      obtain ⟨b, hb, hs⟩ := cutF_ok r _ h
      refine ⟨_, hb, fun t ht => ?_⟩
      rcases List.mem_cons.1 ht with rfl | ht
      · exact ⟨by simp [look], hasN_ok _ _ hw⟩
      · obtain ⟨h1, h2⟩ := hs t ht
        have : s ≠ t := fun e => h2 (by rw [e]; exact List.mem_cons_self ..)
        exact ⟨by simp only [look, beq_ne this, cond_false]; exact h1, fun h => h2 (List.mem_cons_of_mem _ h)⟩

theorem run_ok {P : Program} {E : Env} {W0 : World} {X : Bd} (hm : P.follows .mixedOrders = true) (hE : EnvOk P E) (hXm : X.m ≤ E.m) : ∀ (co : Code) {c : Cx} {fr : Fr} {hp : List AO} {nx : Nat} {a : Act} {Q : Ex → Post} {Qe : Exit → Act → World → Prop},
    run E co fr hp nx Q → Gam W0 X E.N c fr hp nx a → (∀ ex a' w', Is W0 X E.N (Q ex) a' w' → Qe (toExit ex) a' w') → co.wp P Qe a c.w
  | .skip, c, fr, hp, nx, a, Q, Qe, hk, h, hq => wp_skip (hq .normal a c.w ⟨c, fr, hp, nx, rfl, h, hk⟩)
  | .region id ops false, c, fr, hp, nx, a, Q, Qe, hk, h, hq => wp_region_list (by
      have := runOps_ok (Qe := Qe) hE ops.toList ops.toList hk h (fun a' w' hI => hq .normal a' w' hI)
      simpa using this)
  | .region id ops true, c, fr, hp, nx, a, Q, Qe, hk, h, hq => anyOrd_region hm (by
      have hb : BelowD c.w.heap.size c.w { c.w with drawn := c.w.drawn + 1 } := ⟨⟨rfl, rfl, rfl, Nat.le_refl _, fun _ _ => rfl⟩, Nat.le_succ _⟩
      exact drawAll_ok (Qe := Qe) hE 6 (h.below hb) hk (fun a' w' hI => hq .normal a' w' hI))
  | .seq x y, c, fr, hp, nx, a, Q, Qe, hk, h, hq => wp_seq (run_ok hm hE hXm x hk h (fun ex a' w' hI => by
      obtain ⟨c', fr', hp', nx', rfl, hG, hK⟩ := hI
      cases ex with
      | normal => exact run_ok hm hE hXm y hK hG hq
      | ret => exact hq .ret _ _ ⟨c', fr', hp', nx', rfl, hG, hK⟩
      | exit n => exact hq (.exit n) _ _ ⟨c', fr', hp', nx', rfl, hG, hK⟩
      | goto n => exact hq (.goto n) _ _ ⟨c', fr', hp', nx', rfl, hG, hK⟩))
  | .cond x y z, c, fr, hp, nx, a, Q, Qe, hk, h, hq => by
    unfold run at hk
    have hx := raw_ok h x
    split at hk
    · rename_i b e
      rw [e] at hx
      exact wp_cond_split (by simpa [sat] using hx) (fun hb => run_ok hm hE hXm y ((fork_out hk).1 hb) h hq) (fun hb => run_ok hm hE hXm z ((fork_out hk).2 hb) h hq)
    · exact hk.elim
  | .block id x, c, fr, hp, nx, a, Q, Qe, hk, h, hq => wp_block (run_ok hm hE hXm x hk h (fun ex a' w' hI => by
      obtain ⟨c', fr', hp', nx', rfl, hG, hK⟩ := hI
      cases ex with
      | normal => exact hq .normal _ _ ⟨c', fr', hp', nx', rfl, hG, hK⟩
      | ret => exact hq .ret _ _ ⟨c', fr', hp', nx', rfl, hG, hK⟩
      | goto n => exact hq (.goto n) _ _ ⟨c', fr', hp', nx', rfl, hG, hK⟩
      | exit n =>
        simp only [toExit, Exit.inBlock]
        cases hb : Nat.beq n id with
        | true =>
          simp only [hb, cond_true] at hK
          rw [if_pos (Nat.eq_of_beq_eq_true hb)]
          exact hq .normal _ _ ⟨c', fr', hp', nx', rfl, hG, hK⟩
        | false =>
          simp only [hb, cond_false] at hK
          rw [if_neg (fun e => by subst e; simp at hb)]
          exact hq (.exit n) _ _ ⟨c', fr', hp', nx', rfl, hG, hK⟩))
  | .loop x, c, fr, hp, nx, a, Q, Qe, hk, h, hq => by
    have hk0 : cutF (writes x) fr (fun base => loopP E.m base (run E x) fr hp nx Q) := hk
    obtain ⟨base, hk', hsb⟩ := cutF_ok fr _ hk0
    unfold loopP at hk'
    obtain ⟨I, hstart, hround⟩ := hk'
    obtain ⟨n, fr0, hp0, nx0, hs0, hI0⟩ := hstart fun s hs => (hsb s hs).1
    have key : ∀ (N n : Nat), n < N → ∀ a' w', Is W0 X E.N (I n) a' w' → Code.rounds P x Qe N a' w' := by
      intro N
      induction N with
      | zero => exact fun n hn => absurd hn (Nat.not_lt_zero _)
      | succ N ih =>
        rintro n hn a' w' ⟨c', fr', hp', nx', rfl, hG, hK⟩
        rw [rounds_succ]
        refine run_ok hm hE hXm x (hround n fr' hp' nx' hK) hG fun ex a2 w2 hI => ?_
        obtain ⟨c2, fr2, hp2, nx2, rfl, hG2, hK2⟩ := hI
        cases ex with
        | normal =>
          obtain ⟨m, fr3, hp3, nx3, hmn, hs3, hI3⟩ := hK2
          obtain ⟨c3, e3, _, hG3⟩ := hs3 _ _ _ _ _ hXm hG2
          exact ih m (by omega) _ _ ⟨c3, fr3, hp3, nx3, e3, hG3, hI3⟩
        | ret => exact hq .ret _ _ ⟨c2, fr2, hp2, nx2, rfl, hG2, hK2⟩
        | exit k => exact hq (.exit k) _ _ ⟨c2, fr2, hp2, nx2, rfl, hG2, hK2⟩
        | goto k => exact hq (.goto k) _ _ ⟨c2, fr2, hp2, nx2, rfl, hG2, hK2⟩
    obtain ⟨c0, e0, _, hG0⟩ := hs0 _ _ _ _ _ hXm h
    rw [← e0]
    exact wp_loop_rounds (n + 1) (key (n + 1) n (Nat.lt_succ_self n) a c0.w ⟨c0, fr0, hp0, nx0, rfl, hG0, hI0⟩)
  | .exit n, c, fr, hp, nx, a, Q, Qe, hk, h, hq => wp_exit (hq (.exit n) a c.w ⟨c, fr, hp, nx, rfl, h, hk⟩)
  | .ret, c, fr, hp, nx, a, Q, Qe, hk, h, hq => wp_ret (hq .ret a c.w ⟨c, fr, hp, nx, rfl, h, hk⟩)
  | .rangeFunc _ _ _ _, _, _, _, _, _, _, _, hk, _, _ => hk.elim
  | .scope _, _, _, _, _, _, _, _, hk, _, _ => hk.elim
  | .label l, c, fr, hp, nx, a, Q, Qe, hk, h, hq => wp_label (hq .normal a c.w ⟨c, fr, hp, nx, rfl, h, hk⟩)
  | .goto n, c, fr, hp, nx, a, Q, Qe, hk, h, hq => wp_goto (hq (.goto n) a c.w ⟨c, fr, hp, nx, rfl, h, hk⟩)
  | .refuse _, _, _, _, _, _, _, _, hk, _, _ => hk.elim

/-- A scope out of which the run goes to a label at most once. -/
theorem wp_scope_once {P : Program} {a : Act} {w : World} {Q : Exit → Act → World → Prop} {c : Code} (h : c.wp P (fun e a w => match e with
    | .goto l => ∃ rest, findLabel c l = some rest ∧ rest.wp P (Exit.noGoto Q) a w
    | e => Q e a w) a w) : (Code.scope c).wp P Q a w := by
  intro b k cs
  obtain ⟨e, a₁, w₁, hq, harr⟩ := h b (.inScope c :: k) cs
  cases e with
  | normal => exact ⟨.normal, a₁, w₁, hq, .head step_scope (Steps.trans harr (.one step_inScope))⟩
  | exit id => exact ⟨.exit id, a₁, w₁, hq, fun k' hk => .head step_scope (harr k' (by simp [exitTo, hk]))⟩
  | goto l =>
    obtain ⟨rest, hf, hr⟩ := hq
    have hg : gotoIn l (.inScope c :: k) = some (.code rest :: .inScope c :: k) := by simp [gotoIn, hf]
    obtain ⟨e, a₂, w₂, hq, harr₂⟩ := hr b (.inScope c :: k) cs
    cases e with
    | normal => exact ⟨.normal, a₂, w₂, hq, Steps.trans (.head step_scope (harr _ hg)) (Steps.trans harr₂ (.one step_inScope))⟩
    | exit id => exact ⟨.exit id, a₂, w₂, hq, fun k' hk => Steps.trans (.head step_scope (harr _ hg)) (harr₂ k' (by simp [exitTo, hk]))⟩
    | goto l => exact hq.elim
    | ret => exact ⟨_, a₂, w₂, hq, .of_steps (.head step_scope (harr _ hg)) harr₂⟩
    | panic ch => exact ⟨_, a₂, w₂, hq, .of_steps (.head step_scope (harr _ hg)) harr₂⟩
    | outgrown => exact ⟨_, a₂, w₂, hq, .of_steps (.head step_scope (harr _ hg)) harr₂⟩
  | ret => exact ⟨_, a₁, w₁, hq, .of_steps (.one step_scope) harr⟩
  | panic ch => exact ⟨_, a₁, w₁, hq, .of_steps (.one step_scope) harr⟩
  | outgrown => exact ⟨_, a₁, w₁, hq, .of_steps (.one step_scope) harr⟩

theorem runF_ok {P : Program} {E : Env} {W0 : World} {X : Bd} (hm : P.follows .mixedOrders = true) (hE : EnvOk P E) (hXm : X.m ≤ E.m) (co : Code) {c : Cx} {fr : Fr} {hp : List AO} {nx : Nat} {a : Act} {Q : Ex → Post} {Qe : Exit → Act → World → Prop}
    (hk : runF E co fr hp nx Q) (h : Gam W0 X E.N c fr hp nx a) (hq : ∀ ex a' w', Is W0 X E.N (Q ex) a' w' → Qe (toExit ex) a' w') : co.wp P Qe a c.w := by
  cases co with
  | scope x =>
    refine wp_scope_once (run_ok hm hE hXm x (Q := jumpR E x Q) hk h fun ex a' w' hI => ?_)
    obtain ⟨c', fr', hp', nx', rfl, hG, hK⟩ := hI
    cases ex with
    | normal => exact hq .normal _ _ ⟨c', fr', hp', nx', rfl, hG, hK⟩
    | ret => exact hq .ret _ _ ⟨c', fr', hp', nx', rfl, hG, hK⟩
    | exit n => exact hq (.exit n) _ _ ⟨c', fr', hp', nx', rfl, hG, hK⟩
    | goto l =>
      show ∃ rest, findLabel x l = some rest ∧ rest.wp P (Exit.noGoto Qe) a' c'.w
      simp only [jumpR] at hK
      cases hf : findLabel x l with
      | none => rw [hf] at hK; exact hK.elim
      | some rest =>
        rw [hf] at hK
        refine ⟨rest, rfl, run_ok hm hE hXm rest hK hG fun ex a2 w2 hI => ?_⟩
        obtain ⟨c2, fr2, hp2, nx2, rfl, hG2, hK2⟩ := hI
        cases ex with
        | normal => exact hq .normal _ _ ⟨c2, fr2, hp2, nx2, rfl, hG2, hK2⟩
        | ret => exact hq .ret _ _ ⟨c2, fr2, hp2, nx2, rfl, hG2, hK2⟩
        | exit n => exact hq (.exit n) _ _ ⟨c2, fr2, hp2, nx2, rfl, hG2, hK2⟩
        | goto l => exact hK2.elim
  | _ => exact run_ok hm hE hXm _ hk h hq

def scopeOf : Code → Option (Code × Code)
  | .seq x (.scope c) => some (x, c)
  | _ => none
theorem scopeOf_eq {co x c : Code} (h : scopeOf co = some (x, c)) : co = .seq x (.scope c) := by
  unfold scopeOf at h
  split at h
  · injection h with h; injection h with h1 h2; rw [h1, h2]
  · cases h
/-- A function's body. -/
def runT (E : Env) (co : Code) (fr : Fr) (hp : List AO) (nx : Nat) (Q : Ex → Post) : Prop :=
  match scopeOf co with
  | some (x, c) => run E x fr hp nx fun e fr hp nx => match e with
    | .normal => run E c fr hp nx (jumpR E c Q)
    | .ret => Q .ret fr hp nx
    | .exit n => Q (.exit n) fr hp nx
    | .goto n => Q (.goto n) fr hp nx
  | none => run E co fr hp nx Q
theorem runT_ok {P : Program} {E : Env} {W0 : World} {X : Bd} (hm : P.follows .mixedOrders = true) (hE : EnvOk P E) (hXm : X.m ≤ E.m) (co : Code) {c : Cx} {fr : Fr} {hp : List AO} {nx : Nat} {a : Act} {Q : Ex → Post} {Qe : Exit → Act → World → Prop}
    (hk : runT E co fr hp nx Q) (h : Gam W0 X E.N c fr hp nx a) (hq : ∀ ex a' w', Is W0 X E.N (Q ex) a' w' → Qe (toExit ex) a' w') : co.wp P Qe a c.w := by
  unfold runT at hk
  split at hk
  · rename_i x d hs
    have := scopeOf_eq hs
    subst this
    refine wp_seq (run_ok hm hE hXm x hk h (fun ex a' w' hI => ?_))
    obtain ⟨c', fr', hp', nx', rfl, hG, hK⟩ := hI
    cases ex with
    | normal => exact runF_ok hm hE hXm (.scope d) (Q := Q) hK hG hq
    | ret => exact hq .ret _ _ ⟨c', fr', hp', nx', rfl, hG, hK⟩
    | exit n => exact hq (.exit n) _ _ ⟨c', fr', hp', nx', rfl, hG, hK⟩
    | goto n => exact hq (.goto n) _ _ ⟨c', fr', hp', nx', rfl, hG, hK⟩
  · exact run_ok hm hE hXm co hk h hq

/-! ### Told in another way -/
def leV (x y : Value) : Prop :=
  match x, y with
  | .int k a, .int l b => k = l ∧ a = b
  | .bool a, .bool b => a = b
  | .string a, .string b => a = b
  | x, y => x = y
theorem leV_eq {x y : Value} (h : leV x y) : x = y := by
  unfold leV at h
  split at h
  · rw [h.1, h.2]
  · rw [h]
  · rw [h]
  · exact h
/-- What v says, w says: one's own by the places π. -/
def leA (vn : Nat) (hp : List AO) (π : List Nat) : AV → AV → Prop
  | .v (.slice none n _), .rl _ t l => n = 0 ∧ l = []
  | .v (.slice none n m), .ow j k n' => n = 0 ∧ m = 0 ∧ n' = 0 ∧ idx π (vn + j) = some j
  | .v x, .v y => leV x y
  | .v _, .u => True
  | .nil, .nil => True
  | .cons a b, .cons c d => leA vn hp π a c ∧ leA vn hp π b d
  | .agg a, .agg b => leA vn hp π a b
  | .agg _, .u => True
  | .tup a, .tup b => leA vn hp π a b
  | .tup _, .u => True
  | .fn f a, .fn g b => f = g ∧ leA vn hp π a b
  | .fn _ _, .u => True
  | .ptr i o, .ptr j p => idx π i = some j ∧ o = p
  | .ptr _ _, .u => True
  | .sc i o n m t, .sc j p n' m' t' => idx π i = some j ∧ o = p ∧ n = n' ∧ m = m'
  | .sc _ _ _ _ _, .u => True
  | .rl q t l, .rl q' t' l' => (q' = true → q = true) ∧ castK t t' l False fun l => l = l'
  | .rl _ _ _, .u => True
  | .rc q t l, .rl q' t' l' => (q' = true → q = true) ∧ castK t t' l False fun l => l = l'
  | .rc q t l, .rc q' t' l' => (q' = true → q = true) ∧ castK t t' l False fun l => l = l'
  | .rc _ _ _, .u => True
  | .em, .em => True
  | .em, .rl _ _ l => l = []
  | .em, .u => True
  | .rp _ _ _, .u => True
  | .ow i k n, .ow j k' n' => idx π i = some j ∧ k = k' ∧ n = n'
  | .ow i k n, .ws j k' lo n' => idx π i = some j ∧ k = k' ∧ lo = 0 ∧ n' = n
  | .ow i k n, .rl q t l => (match getAO hp i with
    | .fz q0 t0 l0 => (q = true → q0 = true) ∧ castK t0 t l0 False fun l0 => l0 = l
    | _ => False)
  | .ow _ _ _, .u => True
  | .ws i k lo n, .ws j k' lo' n' => idx π i = some j ∧ k = k' ∧ lo = lo' ∧ n = n'
  | .ws i k lo n, .rl q t l => (match getAO hp i with
    | .fz q0 t0 l0 => (q = true → q0 = true) ∧ tsz t0 = k ∧ castK t0 t l0 False fun l0 => (l0.drop lo).take n = l
    | _ => False)
  | .ws _ _ _ _, .u => True
  | .op i k x o, .op j k' x' o' => idx π i = some j ∧ k = k' ∧ x = x' ∧ o = o'
  | .op _ _ _ _, .u => True
  | .gd _ _, .u => True
  | .u, .u => True
  | _, _ => False
def leO (vn : Nat) (hp : List AO) (π : List Nat) : AO → AO → Prop
  | .cells l, .cells l' => leA vn hp π l l'
  | .row q t e l, .row q' t' e' l' => (q' = true → q = true) ∧ e = e' ∧ castK t t' l False fun l => l = l'
  | .fz q t l, .fz q' t' l' => (q' = true → q = true) ∧ castK t t' l False fun l => l = l'
  | .dead, .dead => True
  | .fz _ _ _, .dead => True
  | _, _ => False
def leF (vn : Nat) (hp : List AO) (π : List Nat) (fr : Fr) : Fr → Prop
  | [] => True
  | (s, v) :: r => leA vn hp π (look fr s) v ∧ leF vn hp π fr r
def leH (vn : Nat) (hp : List AO) (π : List Nat) : List Nat → List AO → Prop
  | [], [] => True
  | i :: r, o :: l => leO vn hp π (getAO hp i) o ∧ leH vn hp π r l
  | _, _ => False

theorem u_ok {c : Cx} {x : Value} : sat .u c [x] := ⟨x, rfl⟩
/-- From vn on there are empty rows alone. -/
def Vn (c : Cx) (vn : Nat) : Prop := ∀ i, vn ≤ i → i < c.n → c.val i = .slice none 0 0 ∧ c.len i = 0
theorem leA_ok {c : Cx} {hp : List AO} {π : List Nat} {vn : Nat} (ob : Obs c hp) (hV : Vn c vn) (hlt : ∀ i ∈ π, i < c.n) : ∀ (v w : AV) {vs : List Value}, leA vn hp π v w → sat v c vs → sat w (c.pull π) vs
  | .v x, w, vs, h, hs => by
    have e : vs = [x] := hs
    subst e
    cases w with
    | u => exact u_ok
    | v y =>
      have : leV x y := by cases x <;> first | exact h | (rename_i A n m; cases A <;> exact h)
      rw [leV_eq this]; rfl
    | rl q t l =>
      cases x with
      | slice A n m =>
        cases A with
        | none =>
          obtain ⟨rfl, rfl⟩ := h
          exact ⟨none, m, rfl, Nat.zero_le _, fun i y hy => by simp at hy⟩
        | some ad => exact h.elim
      | _ => exact h.elim
    | ow j k n' =>
      cases x with
      | slice A n m =>
        cases A with
        | none =>
          obtain ⟨rfl, rfl, rfl, hi⟩ := h
          have hp' := idx_at π _ _ hi
          have q := pull_val (c := c) hp'
          obtain ⟨hv1, hv2⟩ := hV (vn + j) (by omega) (hlt _ (List.mem_of_getElem? hp'))
          exact ⟨(List.getElem?_eq_some_iff.1 hp').1, by rw [q.2.1, hv2], by rw [q.1, hv1], none, 0, by rw [q.1, hv1], Nat.le_refl _⟩
        | some ad => exact h.elim
      | _ => exact h.elim
    | _ => cases x <;> first | exact h.elim | (rename_i A n m; cases A <;> exact h.elim)
  | .nil, w, vs, h, hs => by cases w <;> first | exact h.elim | exact hs
  | .cons a b, w, vs, h, hs => by
    cases w <;> try exact h.elim
    obtain ⟨x, r, e, h1, h2⟩ := hs
    exact ⟨x, r, e, leA_ok ob hV hlt a _ h.1 h1, leA_ok ob hV hlt b _ h.2 h2⟩
  | .agg a, w, vs, h, hs => by
    obtain ⟨cs, e, h1⟩ := hs
    subst e
    cases w <;> try exact h.elim
    · exact u_ok
    · exact ⟨cs, rfl, leA_ok ob hV hlt a _ h h1⟩
  | .tup a, w, vs, h, hs => by
    obtain ⟨cs, e, h1⟩ := hs
    subst e
    cases w <;> try exact h.elim
    · exact u_ok
    · exact ⟨cs, rfl, leA_ok ob hV hlt a _ h h1⟩
  | .fn f a, w, vs, h, hs => by
    obtain ⟨cs, e, h1⟩ := hs
    subst e
    cases w <;> try exact h.elim
    · exact u_ok
    · obtain ⟨rfl, h2⟩ := h
      exact ⟨cs, rfl, leA_ok ob hV hlt a _ h2 h1⟩
  | .gd b x, w, vs, h, hs => by
    obtain ⟨y, e, _⟩ := hs
    subst e
    cases w <;> try exact h.elim
    exact u_ok
  | .ptr i o, w, vs, h, hs => by
    obtain ⟨hi, b, hb, e⟩ := hs
    subst e
    cases w <;> try exact h.elim
    · exact u_ok
    · obtain ⟨h1, rfl⟩ := h
      have hp' := idx_at π i _ h1
      exact ⟨(List.getElem?_eq_some_iff.1 hp').1, b, by rw [(pull_val hp').2.2.2]; exact hb, rfl⟩
  | .sc i o n m t, w, vs, h, hs => by
    obtain ⟨hi, b, hb, e⟩ := hs
    subst e
    cases w <;> try exact h.elim
    · exact u_ok
    · obtain ⟨h1, rfl, rfl, rfl⟩ := h
      have hp' := idx_at π i _ h1
      exact ⟨(List.getElem?_eq_some_iff.1 hp').1, b, by rw [(pull_val hp').2.2.2]; exact hb, rfl⟩
  | .rl q t l, w, vs, h, hs => by
    obtain ⟨A, m, e, hm, hL⟩ := hs
    subst e
    cases w <;> try exact h.elim
    · exact u_ok
    · rename_i q' t' l'
      obtain ⟨hq, hc⟩ := h
      revert hc
      refine castK_ok (P := fun p : Prop => p → _) (fun h => h.elim) fun e hc => ?_
      subst e
      have hc' : l = l' := hc
      subst hc'
      exact ⟨A, m, rfl, hm, memR_q (qb_mono hq (Nat.le_refl _)) hL⟩
  | .rc q t l, w, vs, h, hs => by
    obtain ⟨A, e, hL⟩ := hs
    subst e
    cases w <;> try exact h.elim
    · exact u_ok
    · rename_i q' t' l'
      obtain ⟨hq, hc⟩ := h
      revert hc
      refine castK_ok (P := fun p : Prop => p → _) (fun h => h.elim) fun e hc => ?_
      subst e
      have hc' : l = l' := hc
      subst hc'
      exact ⟨A, _, rfl, Nat.le_refl _, memR_q (qb_mono hq (Nat.le_refl _)) hL⟩
    · rename_i q' t' l'
      obtain ⟨hq, hc⟩ := h
      revert hc
      refine castK_ok (P := fun p : Prop => p → _) (fun h => h.elim) fun e hc => ?_
      subst e
      have hc' : l = l' := hc
      subst hc'
      exact ⟨A, rfl, memR_q (qb_mono hq (Nat.le_refl _)) hL⟩
  | .em, w, vs, h, hs => by
    obtain ⟨A, e⟩ := hs
    subst e
    cases w <;> try exact h.elim
    · exact u_ok
    · rename_i q t l
      have hl : l = [] := h
      subst hl
      exact ⟨A, 0, rfl, Nat.le_refl _, fun i y hy => by simp at hy⟩
    · exact ⟨A, rfl⟩
  | .rp k e o, w, vs, h, hs => by
    obtain ⟨b, q, e, _⟩ := hs
    subst e
    cases w <;> try exact h.elim
    exact u_ok
  | .ow i k n, w, vs, h, hs => by
    obtain ⟨hi, hn, e, A, m, hv, hm⟩ := hs
    subst e
    cases w <;> try exact h.elim
    · exact u_ok
    · rename_i q t l
      simp only [leA] at h
      split at h
      · rename_i q0 t0 l0 hg
        obtain ⟨hq, hc⟩ := h
        revert hc
        refine castK_ok (P := fun p : Prop => p → _) (fun h => h.elim) fun e hc => ?_
        subst e
        have hc' : l0 = l := hc
        subst hc'
        have hfz : osat (.fz q0 t0 l0) c i := ob.o i _ (getAO_at hg (by simp))
        obtain ⟨A', m', e', hm', hL⟩ := hfz.2.2.1
        exact ⟨A', m', e', hm', memR_q (qb_mono hq (Nat.le_refl _)) hL⟩
      · exact h.elim
    · obtain ⟨h1, rfl, rfl⟩ := h
      have hp' := idx_at π i _ h1
      have q := pull_val (c := c) hp'
      exact ⟨(List.getElem?_eq_some_iff.1 hp').1, by rw [q.2.1]; exact hn, by rw [q.1], A, m, by rw [q.1]; exact hv, hm⟩
    · obtain ⟨h1, rfl, rfl, rfl⟩ := h
      have hp' := idx_at π i _ h1
      have q := pull_val (c := c) hp'
      refine ⟨(List.getElem?_eq_some_iff.1 hp').1, by rw [q.2.1, hn]; omega, A, m, A, by rw [q.1, q.2.1, ← hn]; exact hv, by rw [q.2.1, ← hn]; exact hm, fun _ => ?_, by rw [hv]; rfl⟩
      cases A with
      | none => rfl
      | some ad => simp only [Option.map_some, Nat.zero_mul]; rfl
  | .ws i k lo n, w, vs, h, hs => by
    obtain ⟨hi, hn, A, m, A', hv, hm, hA, e⟩ := hs
    subst e
    cases w <;> try exact h.elim
    · exact u_ok
    · rename_i q t l
      simp only [leA] at h
      split at h
      · rename_i q0 t0 l0 hg
        obtain ⟨hq, hk, hc⟩ := h
        subst hk
        revert hc
        refine castK_ok (P := fun p : Prop => p → _) (fun h => h.elim) fun e hc => ?_
        subst e
        have hc' : (l0.drop lo).take n = l := hc
        subst hc'
        have hfz : osat (.fz q0 t0 l0) c i := ob.o i _ (getAO_at hg (by simp))
        have hl0 : l0.length = c.len i := hfz.2.1
        have h3 := hfz.2.2.1
        rw [hv] at h3
        obtain ⟨A2, m2, e2, hm2, hL2⟩ := rl_cut h3 (n := n) (lo := lo) (A' := A') (m' := m - lo) (by omega) (by omega) hA
        exact ⟨A2, m2, e2, hm2, memR_q (qb_mono hq (Nat.le_refl _)) hL2⟩
      · exact h.elim
    · obtain ⟨h1, rfl, rfl, rfl⟩ := h
      have hp' := idx_at π i _ h1
      have q := pull_val (c := c) hp'
      exact ⟨(List.getElem?_eq_some_iff.1 hp').1, by rw [q.2.1]; exact hn, A, m, A', by rw [q.1, q.2.1]; exact hv, by rw [q.2.1]; exact hm, hA, rfl⟩
  | .op i k x o, w, vs, h, hs => by
    obtain ⟨hi, hx, b, hb, e⟩ := hs
    subst e
    cases w <;> try exact h.elim
    · exact u_ok
    · obtain ⟨h1, rfl, rfl, rfl⟩ := h
      have hp' := idx_at π i _ h1
      have q := pull_val (c := c) hp'
      exact ⟨(List.getElem?_eq_some_iff.1 hp').1, by rw [q.2.1]; exact hx, b, by rw [q.1]; exact hb, rfl⟩
  | .u, w, vs, h, hs => by
    obtain ⟨x, e⟩ := hs
    subst e
    cases w <;> try exact h.elim
    exact u_ok

theorem leO_ok {c : Cx} {hp : List AO} {π : List Nat} {vn : Nat} (ob : Obs c hp) (hV : Vn c vn) (hlt : ∀ i ∈ π, i < c.n) {i j : Nat} (hp' : π[j]? = some i) {o o' : AO} (h : leO vn hp π o o') (hs : osat o c i) : osat o' (c.pull π) j := by
  have q := pull_val (c := c) hp'
  cases o with
  | cells l =>
    cases o' <;> try exact h.elim
    obtain ⟨b, cs, t, h1, h2, h3, h4⟩ := hs
    exact ⟨b, cs, t, by rw [q.2.2.2]; exact h1, by rw [q.2.2.1]; exact h2, h3, leA_ok ob hV hlt l _ h h4⟩
  | row qq t e l =>
    cases o' <;> try exact h.elim
    rename_i q' t' e' l'
    obtain ⟨hq, rfl, hc⟩ := h
    revert hc
    refine castK_ok (P := fun p : Prop => p → _) (fun h => h.elim) fun e2 hc => ?_
    subst e2
    have hc' : l = l' := hc
    subst hc'
    obtain ⟨h0, h1, hqq, xs, h2, h3, h4⟩ := hs
    refine ⟨h0, by rw [q.2.1]; exact h1, fun hqt g hg => hqq (hq hqt) g (by rw [← q.2.2.1]; exact hg), xs, h2, ?_, fun p y hp => memE_q (qb_mono hq (Nat.le_refl _)) (h4 p y hp)⟩
    rcases h3 with ⟨e1, A, e2, e3⟩ | ⟨g, cap, cur, e1, e2, e3⟩
    · exact .inl ⟨e1, A, by rw [q.1]; exact e2, by rw [q.2.2.1]; exact e3⟩
    · exact .inr ⟨g, cap, cur, by rw [q.1]; exact e1, by rw [q.2.2.1]; exact e2, e3⟩
  | fz qq t l =>
    obtain ⟨h1, h2, h3, h4⟩ := hs
    cases o' <;> try exact h.elim
    · rename_i q' t' l'
      obtain ⟨hq, hc⟩ := h
      revert hc
      refine castK_ok (P := fun p : Prop => p → _) (fun h => h.elim) fun e2 hc => ?_
      subst e2
      have hc' : l = l' := hc
      subst hc'
      obtain ⟨A, m, e, hm, hL⟩ := h3
      exact ⟨by rw [q.2.2.1]; exact h1, by rw [q.2.1]; exact h2, by rw [q.1]; exact ⟨A, m, e, hm, memR_q (qb_mono hq (Nat.le_refl _)) hL⟩, by rw [q.1]; exact h4⟩
    · show (c.pull π).key j = none
      rw [q.2.2.1]; exact h1
  | dead =>
    cases o' <;> try exact h.elim
    show (c.pull π).key j = none
    rw [q.2.2.1]; exact hs
  | void => cases o' <;> exact h.elim

theorem leH_len {vn : Nat} {hp : List AO} {π : List Nat} : ∀ (r : List Nat) (l : List AO), leH vn hp π r l → r.length = l.length
  | [], [], _ => rfl
  | i :: r, o :: l, h => by simp [leH_len r l h.2]
theorem leH_at {vn : Nat} {hp : List AO} {π : List Nat} : ∀ (r : List Nat) (l : List AO), leH vn hp π r l → ∀ (j : Nat) (o : AO), l[j]? = some o → ∃ i, r[j]? = some i ∧ leO vn hp π (getAO hp i) o
  | [], [], _, j, o, h => by simp at h
  | i :: r, o :: l, h, 0, o', ho => by
    have : o = o' := by simpa using ho
    subst this
    exact ⟨i, rfl, h.1⟩
  | i :: r, o :: l, h, j + 1, o', ho => leH_at r l h.2 j o' (by simpa using ho)
theorem leF_at {vn : Nat} {hp : List AO} {π : List Nat} {fr : Fr} : ∀ (l : Fr), leF vn hp π fr l → ∀ s, (∃ v, (s, v) ∈ l) → leA vn hp π (look fr s) (look l s)
  | [], _, s, ⟨v, h⟩ => by simp at h
  | (s0, v0) :: r, h, s, ⟨v, hv⟩ => by
    by_cases e : s0 = s
    · subst e
      simpa [look] using h.1
    · simp only [look, beq_ne e, cond_false]
      rcases List.mem_cons.1 hv with hv | hv
      · injection hv with h1 _; exact absurd h1.symm e
      · exact leF_at r h.2 s ⟨v, hv⟩

/-- The same place for whatever is in it. -/
def fixA (π : List Nat) : AV → Bool
  | .cons a b => fixA π a && fixA π b
  | .agg l => fixA π l
  | .tup l => fixA π l
  | .fn _ l => fixA π l
  | .gd _ x => fixA π x
  | .ptr i _ => (match idx π i with | some j => Nat.beq i j | none => false)
  | .sc i _ _ _ _ => (match idx π i with | some j => Nat.beq i j | none => false)
  | .ow i _ _ => (match idx π i with | some j => Nat.beq i j | none => false)
  | .ws i _ _ _ => (match idx π i with | some j => Nat.beq i j | none => false)
  | .op i _ _ _ => (match idx π i with | some j => Nat.beq i j | none => false)
  | _ => true
theorem fixA_abs {π : List Nat} : ∀ (v : AV), fixA π v = true → absA π v = some v
  | .u, _ => rfl
  | .v _, _ => rfl
  | .nil, _ => rfl
  | .em, _ => rfl
  | .rl _ _ _, _ => rfl
  | .rc _ _ _, _ => rfl
  | .rp _ _ _, _ => rfl
  | .cons a b, h => by
    simp only [fixA, Bool.and_eq_true] at h
    simp only [absA, fixA_abs a h.1, fixA_abs b h.2]
  | .agg l, h => by simp only [absA, fixA_abs l h]
  | .tup l, h => by simp only [absA, fixA_abs l h]
  | .fn _ l, h => by simp only [absA, fixA_abs l h]
  | .gd _ x, h => by simp only [absA, fixA_abs x h]
  | .ptr i o, h => by
    simp only [fixA] at h
    split at h
    · rename_i j hj
      have := Nat.eq_of_beq_eq_true h
      subst this
      simp only [absA, hj]
    · cases h
  | .sc i o n m t, h => by
    simp only [fixA] at h
    split at h
    · rename_i j hj
      have := Nat.eq_of_beq_eq_true h
      subst this
      simp only [absA, hj]
    · cases h
  | .ow i k n, h => by
    simp only [fixA] at h
    split at h
    · rename_i j hj
      have := Nat.eq_of_beq_eq_true h
      subst this
      simp only [absA, hj]
    · cases h
  | .ws i k lo n, h => by
    simp only [fixA] at h
    split at h
    · rename_i j hj
      have := Nat.eq_of_beq_eq_true h
      subst this
      simp only [absA, hj]
    · cases h
  | .op i k x o, h => by
    simp only [fixA] at h
    split at h
    · rename_i j hj
      have := Nat.eq_of_beq_eq_true h
      subst this
      simp only [absA, hj]
    · cases h
def fixF (π : List Nat) : Fr → Bool
  | [] => true
  | (_, v) :: r => fixA π v && fixF π r
def offN : List Nat → List Nat → Bool
  | [], _ => true
  | s :: r, l => !hasN l s && offN r l
def lenF : Fr → Nat
  | [] => 0
  | _ :: r => lenF r + 1
def subL : Fr → Fr → Nat
  | _ :: r, _ :: b => subL r b
  | fr, [] => lenF fr
  | [], _ :: _ => 0
def dropF : Nat → Fr → Fr
  | 0, fr => fr
  | n + 1, _ :: r => dropF n r
  | _ + 1, [] => []
def takeF : Nat → Fr → Fr
  | 0, _ => []
  | n + 1, x :: r => x :: takeF n r
  | _ + 1, [] => []
def joinF : Fr → Fr → Fr
  | [], l => l
  | x :: r, l => x :: joinF r l
def nodupB : List Nat → Bool
  | [] => true
  | x :: r => !hasN r x && nodupB r
def allLt : List Nat → Nat → Bool
  | [], _ => true
  | x :: r, n => Nat.blt x n && allLt r n
def headFix : Nat → Nat → List Nat → Bool
  | 0, _, _ => true
  | m + 1, k, x :: r => Nat.beq x k && headFix m (k + 1) r
  | _ + 1, _, [] => false

theorem nodupB_ok : ∀ (l : List Nat), nodupB l = true → l.Nodup
  | [], _ => by simp
  | x :: r, h => by
    simp only [nodupB, Bool.and_eq_true, Bool.not_eq_true'] at h
    exact List.nodup_cons.2 ⟨hasN_ok _ _ h.1, nodupB_ok r h.2⟩
theorem allLt_ok : ∀ (l : List Nat) (n : Nat), allLt l n = true → ∀ i ∈ l, i < n
  | [], _, _, i, h => by cases h
  | x :: r, n, h, i, hi => by
    simp only [allLt, Bool.and_eq_true, Nat.blt_eq] at h
    rcases List.mem_cons.1 hi with rfl | hi
    · exact h.1
    · exact allLt_ok r n h.2 i hi
theorem headFix_ok : ∀ (m k : Nat) (π : List Nat), headFix m k π = true → ∀ j, j < m → π[j]? = some (k + j)
  | 0, _, _, _, j, hj => absurd hj (Nat.not_lt_zero _)
  | m + 1, k, x :: r, h, 0, _ => by
    simp only [headFix, Bool.and_eq_true] at h
    have := Nat.eq_of_beq_eq_true h.1
    simp [this]
  | m + 1, k, x :: r, h, j + 1, hj => by
    simp only [headFix, Bool.and_eq_true] at h
    have := headFix_ok m (k + 1) r h.2 j (by omega)
    rw [List.getElem?_cons_succ, this]
    congr 1; omega
  | m + 1, k, [], h, _, _ => by cases h

theorem look_join : ∀ (l r : Fr) (s : Nat), (s ∈ slots l → look (joinF l r) s = look l s) ∧ (¬ s ∈ slots l → look (joinF l r) s = look r s)
  | [], r, s => ⟨fun h => absurd h (by simp [slots]), fun _ => rfl⟩
  | (s0, v0) :: l, r, s => by
    by_cases e : s0 = s
    · subst e
      exact ⟨fun _ => by simp [joinF, look], fun h => absurd (List.mem_cons_self ..) h⟩
    · have ih := look_join l r s
      refine ⟨fun h => ?_, fun h => ?_⟩
      · simp only [joinF, look, beq_ne e, cond_false]
        rcases List.mem_cons.1 h with h | h
        · exact absurd h.symm e
        · exact ih.1 h
      · simp only [joinF, look, beq_ne e, cond_false]
        exact ih.2 fun h' => h (List.mem_cons_of_mem _ h')
theorem slots_mem : ∀ (l : Fr) (s : Nat), s ∈ slots l → ∃ v, (s, v) ∈ l
  | (s0, v0) :: r, s, h => by
    rcases List.mem_cons.1 h with rfl | h
    · exact ⟨v0, by simp⟩
    · obtain ⟨v, hv⟩ := slots_mem r s h
      exact ⟨v, List.mem_cons_of_mem _ hv⟩
theorem look_out : ∀ (l : Fr) (s : Nat), ¬ s ∈ slots l → look l s = .u
  | [], _, _ => rfl
  | (s0, v0) :: r, s, h => by
    have e : s0 ≠ s := fun e => h (by rw [e]; exact List.mem_cons_self ..)
    simp only [look, beq_ne e, cond_false]
    exact look_out r s fun h' => h (List.mem_cons_of_mem _ h')
theorem join_take : ∀ (n : Nat) (fr : Fr), joinF (takeF n fr) (dropF n fr) = fr
  | 0, fr => rfl
  | n + 1, x :: r => by simp [takeF, dropF, joinF, join_take n r]
  | n + 1, [] => rfl
theorem fixF_at {π : List Nat} : ∀ (l : Fr), fixF π l = true → ∀ s, fixA π (look l s) = true
  | [], _, s => rfl
  | (s0, v0) :: r, h, s => by
    simp only [fixF, Bool.and_eq_true] at h
    by_cases e : s0 = s
    · subst e; simpa [look] using h.1
    · simp only [look, beq_ne e, cond_false]; exact fixF_at r h.2 s
theorem offN_ok : ∀ (a b : List Nat), offN a b = true → ∀ s ∈ a, ¬ s ∈ b
  | [], _, _, s, h => by cases h
  | x :: r, b, h, s, hs => by
    simp only [offN, Bool.and_eq_true, Bool.not_eq_true'] at h
    rcases List.mem_cons.1 hs with rfl | hs
    · exact hasN_ok _ _ h.1
    · exact offN_ok r b h.2 s hs

section
variable {W0 : World} {X : Bd} {N : Nat} {c : Cx} {fr : Fr} {hp : List AO} {nx : Nat} {a : Act}

/-- The same objects by other places. -/
theorem Gam.pulled (h : Gam W0 X N c fr hp nx a) {vn : Nat} (hV : Vn c vn) {π : List Nat} {hp' : List AO} {fr' : Fr} (hn : π.Nodup) (hlt : ∀ i ∈ π, i < hp.length) (hm : ∀ j, j < X.m → π[j]? = some j) (hH : leH vn hp π π hp') (hF : ∀ s (x : Value), sat (look fr s) c [x] → sat (look fr' s) (c.pull π) [x]) :
    Gam W0 X N (c.pull π) fr' hp' hp'.length a := by
  have hlt' : ∀ i ∈ π, i < c.n := fun i hi => by rw [h.nc]; exact hlt i hi
  have hk : ∀ j b, j < π.length → (c.pull π).key j = some b → ∃ i, π[j]? = some i ∧ i < c.n ∧ c.key i = some b := fun j b hj hkb => by
    have hp0 : π[j]? = some (π[j]'hj) := List.getElem?_eq_getElem hj
    exact ⟨_, hp0, hlt' _ (List.getElem_mem hj), by rw [← (pull_val (c := c) hp0).2.2.1]; exact hkb⟩
  refine ⟨h.d, h.z, fun s => hF s _ (h.f s), rfl, ⟨leH_len π hp' hH, fun j o ho => ?_, fun j k b hj hk' h1 h2 => ?_, fun j b hj hkb => ?_, h.ol, h.ob.bz⟩, fun j b hj hkb => ?_, h.oo, h.oz, h.xy, h.b0, fun j hj => ?_, h.bb, h.os, h.tp, h.ou, h.sz, h.kp, h.dr⟩
  · obtain ⟨i, hp0, hle⟩ := leH_at π hp' hH j o ho
    have hil : i < hp.length := hlt i (List.mem_of_getElem? hp0)
    have hget : hp[i]? = some (getAO hp i) := by rw [getAO_eq, List.getElem?_eq_getElem hil]; rfl
    exact leO_ok h.ob hV hlt' hp0 hle (h.o i _ hget)
  · obtain ⟨i1, p1, l1, k1⟩ := hk j b hj h1
    obtain ⟨i2, p2, l2, k2⟩ := hk k b hk' h2
    have e := h.ob.dj i1 i2 b l1 l2 k1 k2
    subst e
    have q1 := idx_of π _ _ hn p1
    rw [idx_of π _ _ hn p2] at q1
    injection q1 with q1; exact q1.symm
  · obtain ⟨i1, p1, l1, k1⟩ := hk j b hj hkb
    exact h.ob.kb i1 b l1 k1
  · obtain ⟨i1, p1, l1, k1⟩ := hk j b hj hkb
    exact h.kx i1 b l1 k1
  · have hp0 := hm j hj
    have q := pull_val (c := c) hp0
    obtain ⟨h1, h2, h3⟩ := h.st j hj
    exact ⟨(List.getElem?_eq_some_iff.1 hp0).1, fun b hb => by rw [q.2.2.2]; exact h2 b hb, fun hv => by rw [q.1, q.2.1]; exact h3 hv⟩

/-- Empty rows for what is to be one's own. -/
def virt : List AO → List AO
  | [] => []
  | .row _ t e _ :: r => (bif Nat.blt 0 (tsz t) then AO.row true t e [] else .dead) :: virt r
  | _ :: r => .dead :: virt r
theorem virt_len : ∀ (l : List AO), (virt l).length = l.length
  | [] => rfl
  | .row _ t e _ :: r => by simp [virt, virt_len r]
  | .cells _ :: r => by simp [virt, virt_len r]
  | .fz _ _ _ :: r => by simp [virt, virt_len r]
  | .dead :: r => by simp [virt, virt_len r]
  | .void :: r => by simp [virt, virt_len r]
theorem Gam.adopt1 (h : Gam W0 X N c fr hp nx a) {vn : Nat} (hvn : vn ≤ hp.length) (hV : Vn c vn) {o : AO} (ho : o = .dead ∨ ∃ t e, o = .row true t e [] ∧ 0 < tsz t) :
    ∃ c', c'.w = c.w ∧ c'.b0 = c.b0 ∧ Vn c' vn ∧ Gam W0 X N c' fr (hp ++ [o]) (hp ++ [o]).length a ∧ Step c c' := by
  have nc := h.nc
  have key := h.add (w' := c.w) (ix := c.n) (n' := c.n + 1) (ln := 0) (k := none) (lo := none) (v := .slice none 0 0) (hv := at0_nil none 0) (ob := o) (fun _ => False) (.inl ⟨rfl, rfl, rfl⟩) (fun b hb => hb.elim) (Nat.le_refl _) (fun _ _ _ => rfl) rfl rfl rfl (fun g hg => by cases hg)
  have hob : osat o (c.add c.w c.n none none (.slice none 0 0) 0 (c.n + 1) (at0_nil none 0)) c.n := by
    rcases ho with rfl | ⟨t, e, rfl, h0⟩
    · exact updF_at _ _ _
    · exact ⟨h0, (updF_at _ _ _).symm, fun _ g hg => (by have := (updF_at c.key c.n none).symm.trans hg; cases this), [], by simp, .inl ⟨rfl, none, updF_at _ _ _, updF_at _ _ _⟩, fun j y hj => by simp at hj⟩
  obtain ⟨hG, st⟩ := key hob
  refine ⟨c.add c.w c.n none none (.slice none 0 0) 0 (c.n + 1) (at0_nil none 0), rfl, rfl, fun i hi hin => ?_, hG, st⟩
  by_cases e : i = c.n
  · subst e; exact ⟨updF_at _ _ _, updF_at _ _ _⟩
  · have hlt : i < c.n := by have : i < c.n + 1 := hin; omega
    have q1 : (c.add c.w c.n none none (.slice none 0 0) 0 (c.n + 1) (at0_nil none 0)).val i = c.val i := updF_ne _ _ e
    have q2 : (c.add c.w c.n none none (.slice none 0 0) 0 (c.n + 1) (at0_nil none 0)).len i = c.len i := updF_ne _ _ e
    rw [q1, q2]; exact hV i hi hlt
theorem Gam.adopt : ∀ (l : List AO) {c : Cx} {hp : List AO} {nx vn : Nat}, Gam W0 X N c fr hp nx a → vn ≤ hp.length → Vn c vn → (∀ o ∈ l, o = .dead ∨ ∃ t e, o = .row true t e [] ∧ 0 < tsz t) →
    ∃ c', c'.w = c.w ∧ c'.b0 = c.b0 ∧ Vn c' vn ∧ Gam W0 X N c' fr (hp ++ l) (hp ++ l).length a ∧ Step c c'
  | [], c, hp, nx, vn, h, _, hV, _ => ⟨c, rfl, rfl, hV, by rw [List.append_nil, ← h.nl]; exact h, Step.refl c⟩
  | o :: r, c, hp, nx, vn, h, hvn, hV, hl => by
    obtain ⟨c1, w1, b1, v1, g1, s1⟩ := h.adopt1 hvn hV (hl o (by simp))
    obtain ⟨c2, w2, b2, v2, g2, s2⟩ := Gam.adopt r g1 (by simp; omega) v1 fun o ho => hl o (by simp [ho])
    exact ⟨c2, w2.trans w1, b2.trans b1, v2, by simpa using g2, s1.trans s2⟩
theorem virt_ok : ∀ (l : List AO), ∀ o ∈ virt l, o = .dead ∨ ∃ t e, o = AO.row true t e [] ∧ 0 < tsz t
  | [], o, h => by cases h
  | .row q t e l :: r, o, h => by
    simp only [virt, List.mem_cons] at h
    rcases h with h | h
    · cases hb : Nat.blt 0 (tsz t) with
      | false => rw [hb] at h; exact .inl h
      | true => rw [hb] at h; exact .inr ⟨t, e, h, by simpa [Nat.blt_eq] using hb⟩
    · exact virt_ok r o h
  | .cells _ :: r, o, h => by rcases List.mem_cons.1 h with h | h; exact .inl h; exact virt_ok r o h
  | .fz _ _ _ :: r, o, h => by rcases List.mem_cons.1 h with h | h; exact .inl h; exact virt_ok r o h
  | .dead :: r, o, h => by rcases List.mem_cons.1 h with h | h; exact .inl h; exact virt_ok r o h
  | .void :: r, o, h => by rcases List.mem_cons.1 h with h | h; exact .inl h; exact virt_ok r o h

/-- Told in another way: rows that are only read from now on, other places, less of the frame. -/
theorem slim_mk {m : Nat} {base ov : Fr} {hp' : List AO} (ows π : List Nat) (hsub : ∀ s, s ∈ slots base → look fr s = look base s)
    (h2 : (offN (slots base) (slots ov) && fixF π base && nodupB π && allLt π (lenO hp + lenO hp') && headFix m 0 π && offN ows (slots [])) = true)
    (h3 : leF (lenO hp) (frz ows (joinO hp (virt hp'))) π fr ov) (h4 : leH (lenO hp) (frz ows (joinO hp (virt hp'))) π π hp') : Slim m fr hp nx (joinF ov base) hp' (lenO hp') := by
  intro W0 X N c a hm h
  simp only [Bool.and_eq_true] at h2
  obtain ⟨⟨⟨⟨⟨b2, b3⟩, b4⟩, b5⟩, b6⟩, _⟩ := h2
  obtain ⟨c0, w0, e0, v0, g0, s0⟩ := h.adopt (virt hp') (vn := hp.length) (Nat.le_refl _) (fun i hi hin => by rw [h.nc] at hin; omega) (virt_ok hp')
  rw [lenO_eq] at h3 h4
  rw [joinO_eq] at h3 h4
  obtain ⟨c1, w1, n1, v1, e1, k1, kk, g1, s1, ln1, o1, f1⟩ := g0.freeze ows
  have hV1 : Vn c1 hp.length := fun i hi hin => by
    rw [n1] at hin
    obtain ⟨q1, q2⟩ := v0 i hi hin
    obtain ⟨q3, q4⟩ := s1.val i hin (by rw [q1]; simp)
    exact ⟨q3.trans q1, q4.trans q2⟩
  have hlt1 : ∀ i ∈ π, i < (frz ows (hp ++ virt hp')).length := fun i hi => by
    rw [ln1, List.length_append, virt_len]
    have := allLt_ok _ _ b5 i hi
    rwa [lenO_eq, lenO_eq] at this
  have hlt2 : ∀ i ∈ π, i < c1.n := fun i hi => by rw [g1.nc]; exact hlt1 i hi
  refine ⟨c1.pull π, w1.trans w0, e1.trans e0, ?_⟩
  rw [lenO_eq]
  refine g1.pulled hV1 (nodupB_ok _ b4) hlt1 (fun j hj => by have := headFix_ok m 0 π b6 j (by omega); rwa [Nat.zero_add] at this) h4 fun s x hs => ?_
  by_cases hsb : s ∈ slots base
  · have q1 : look (joinF ov base) s = look base s := (look_join ov base s).2 (fun h => offN_ok _ _ b2 s hsb h)
    have q2 : look fr s = look base s := hsub s hsb
    rw [q1]
    rw [q2] at hs
    exact abs_ok _ (fixA_abs _ (fixF_at base b3 s)) hs
  · by_cases hso : s ∈ slots ov
    · rw [(look_join ov base s).1 hso]
      exact leA_ok g1.ob hV1 hlt2 _ _ (leF_at ov h3 s (slots_mem ov s hso)) hs
    · rw [(look_join ov base s).2 hso, look_out base s hsb]
      exact u_ok
end

end Go.Proofs.Ythlkhjfilfdpiaa.Eng
