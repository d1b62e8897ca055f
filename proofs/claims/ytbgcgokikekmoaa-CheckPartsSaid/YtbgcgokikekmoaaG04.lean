/- Parts of the proof, joined: no conditions of their own. -/
import Derived.Orders
import Derived.Test.YtbgcgokikekmoaaG03
/- ENGINE 2, 7: a list of operations; a region; a code; a function. -/
namespace Go.Proofs.Ytbgcgokikekmoaa.Eng
set_option linter.unusedVariables false
set_option linter.unusedSimpArgs false
open Go Go.RowKit

/-- Somewhere on the way: a frame of which Q speaks. -/
def Is (W0 : World) (X : Bd) (N : Nat) (Q : Post) (a : Act) (w : World) : Prop := ∃ c fr hp nx, c.w = w ∧ Gam W0 X N c fr hp nx a ∧ Q fr hp nx

section
variable {P : Program} {E : Env} {W0 : World} {X : Bd} {c : Cx} {fr : Fr} {hp : List AO} {nx : Nat} {a : Act} {o : Oper} {ρ : Operand → AV} {Qe : Exit → Act → World → Prop}

theorem Gam.putd (h : Gam W0 X E.N c fr hp nx a) {d : Option Nat} {v : AV} {x : Value} {K : Fr → Prop} (hk : putK E.N fr d v K) (hv : sat v c [x]) : ∃ fr', Gam W0 X E.N c fr' hp nx (a.put d x) ∧ K fr' := by
  rcases putK_ok hk with ⟨i, rfl, hi, hK⟩ | ⟨rfl, hK⟩
  · exact ⟨_, h.put hi hv, hK⟩
  · exact ⟨fr, h, hK⟩

theorem gd_sat {b : Bool} {v : AV} {x : Value} (hb : b = true) (h : sat v c [x]) : sat (.gd b v) c [x] := ⟨x, rfl, fun _ => h, fun hf => by rw [hb] at hf; cases hf⟩
theorem gd_skip {b : Bool} {v : AV} (hb : b = false) : sat (.gd b v) c [undef] := ⟨undef, rfl, fun ht => absurd (hb.symm.trans ht) (by simp), fun _ => rfl⟩

/-- An operation that is carried out. -/
theorem exec_ok (h : Gam W0 X E.N c fr hp nx a) (dr sq : Bool) (g : Option Bool) (hg : g.getD true = true) (r : R) (hr : GoodR P W0 X E.N c fr hp nx a o r) {K : Post} (hk : stepR E.N dr sq fr hp nx o.dst g r K) : o.wp P a c.w (Is W0 X E.N K) Qe := by
  have okv : ∀ v, OKv P c a o v → (match g with | none => putK E.N fr o.dst v fun fr => K fr hp nx | some b => putK E.N fr o.dst (.gd b v) fun fr => K fr hp nx) → o.wp P a c.w (Is W0 X E.N K) Qe := by
    rintro v ⟨x, hrun, hs⟩ hput
    unfold Oper.wp
    rw [hrun, Oper.upon_value]
    cases g with
    | none =>
      obtain ⟨fr', hG, hK⟩ := h.putd hput hs
      exact ⟨c, fr', hp, nx, rfl, hG, hK⟩
    | some b =>
      obtain ⟨fr', hG, hK⟩ := h.putd hput (gd_sat hg hs)
      exact ⟨c, fr', hp, nx, rfl, hG, hK⟩
  cases r with
  | no => exact Stuck.out hk
  | ok v =>
    have hk' := force_ok v hk
    exact okv v hr (by cases g <;> exact hk')
  | ob p v =>
    have hk' := force_ok v hk
    cases g with
    | none => exact okv v (hr hk'.1) hk'.2
    | some b => exact okv v (hr (hk'.1 hg)) hk'.2
  | call r =>
    have hk' := force_ok r.res hk
    have fin : r.pre → (match g with | none => putK E.N fr o.dst r.res fun fr => K fr hp nx | some b => putK E.N fr o.dst (.gd b r.res) fun fr => K fr hp nx) → o.wp P a c.w (Is W0 X E.N K) Qe := by
      intro hpre hput
      obtain ⟨f, args, hrun, hcall⟩ := hr hpre
      unfold Oper.wp
      rw [hrun, Oper.upon_enter]
      refine hcall.mono fun e w' he => ?_
      obtain ⟨x, rfl, hb, hs⟩ := he
      have hG := h.below hb
      cases g with
      | none =>
        obtain ⟨fr', hG', hK⟩ := hG.putd hput hs
        exact ⟨c.to w', fr', hp, nx, rfl, hG', hK⟩
      | some b =>
        obtain ⟨fr', hG', hK⟩ := hG.putd hput (gd_sat hg hs)
        exact ⟨c.to w', fr', hp, nx, rfl, hG', hK⟩
    cases g with
    | none => exact fin hk'.1 hk'.2
    | some b => exact fin (hk'.1 hg) hk'.2
  | new v ob =>
    cases g with
    | some b => cases dr <;> exact Stuck.out hk
    | none =>
      cases dr with
      | true => exact Stuck.out hk
      | false =>
        have hk2 : forceO ob (fun o' => snocK hp o' fun hp => putK E.N fr o.dst v fun fr => K fr hp (nx + 1)) := hk
        have h1 := snocK_ok hp (forceO_ok ob hk2)
        obtain ⟨x, c', hrun, hG, hs⟩ := hr
        unfold Oper.wp
        rw [hrun, Oper.upon_value]
        obtain ⟨fr', hG', hK⟩ := hG.putd h1 hs
        exact ⟨c', fr', _, _, rfl, hG', hK⟩
  | set v i ob =>
    cases g with
    | some b => cases dr <;> exact Stuck.out hk
    | none =>
      cases dr with
      | true => exact Stuck.out hk
      | false =>
        have hk2 : forceO ob (fun o' => setK hp i o' fun hp => putK E.N fr o.dst v fun fr => K fr hp nx) := hk
        obtain ⟨hi, h1⟩ := setK_ok hp (forceO_ok ob hk2)
        obtain ⟨c', hrun, hG, rfl⟩ := hr hi
        unfold Oper.wp
        rw [hrun, Oper.upon_skip]
        obtain ⟨fr', hG', hK⟩ := hG.putd h1 ⟨undef, rfl⟩
        exact ⟨c', fr', _, _, rfl, hG', hK⟩

  | upd v i ob =>
    cases g with
    | some b => cases dr <;> exact Stuck.out hk
    | none =>
      cases dr with
      | true => exact Stuck.out hk
      | false =>
        have hk2 : forceO ob (fun o' => setK hp i o' fun hp => putK E.N fr o.dst v fun fr => K fr hp nx) := hk
        obtain ⟨hi, h1⟩ := setK_ok hp (forceO_ok ob hk2)
        obtain ⟨x, c', hrun, hG, hs⟩ := hr hi
        unfold Oper.wp
        rw [hrun, Oper.upon_value]
        obtain ⟨fr', hG', hK⟩ := hG.putd h1 hs
        exact ⟨c', fr', _, _, rfl, hG', hK⟩

  | any p F =>
    cases g with
    | some b => cases dr <;> cases sq <;> exact Stuck.out hk
    | none =>
      cases dr with
      | true => cases sq <;> exact Stuck.out hk
      | false =>
        cases sq with
        | false => exact Stuck.out hk
        | true =>
          have hk2 : p ∧ every fun hd => forceH (F hd) fun hp' => putK E.N fr o.dst .u fun fr => K fr hp' (lenO hp') := hk
          obtain ⟨hd, c', hrun, hG⟩ := hr hk2.1
          have h1 := forceH_ok (F hd) (every_out hk2.2 hd)
          rw [lenO_eq] at h1
          unfold Oper.wp
          rw [hrun, Oper.upon_skip]
          obtain ⟨fr', hG', hK⟩ := hG.putd h1 ⟨undef, rfl⟩
          exact ⟨c', fr', _, _, rfl, hG', hK⟩
  | act m p v hp' =>
    have main : ∀ (v2 : AV), (∀ {c' : Cx} {x : Value}, sat v c' [x] → sat v2 c' [x]) → (v = .u → sat v2 c [undef] ∧ ∀ c' : Cx, sat v2 c' [undef]) → p → putK E.N fr o.dst v2 (fun fr => K fr hp' hp'.length) → o.wp P a c.w (Is W0 X E.N K) Qe := by
      intro v2 hv2 hvu hp1 h2
      match m, hr with
      | 0, hr =>
        obtain ⟨c', hrun, hG, hu⟩ := hr hp1
        unfold Oper.wp
        rw [hrun, Oper.upon_skip]
        obtain ⟨fr', hG', hK⟩ := hG.putd h2 ((hvu hu).2 c')
        exact ⟨c', fr', _, _, rfl, hG', hK⟩
      | 1, hr =>
        obtain ⟨x, c', hrun, hG, hs⟩ := hr hp1
        unfold Oper.wp
        rw [hrun, Oper.upon_value]
        obtain ⟨fr', hG', hK⟩ := hG.putd h2 (hv2 hs)
        exact ⟨c', fr', _, _, rfl, hG', hK⟩
      | m + 2, hr =>
        obtain ⟨f, args, hrun, hcall⟩ := hr hp1
        unfold Oper.wp
        rw [hrun, Oper.upon_enter]
        refine hcall.mono fun e w' he => ?_
        obtain ⟨x, c', rfl, rfl, hG, hs⟩ := he
        obtain ⟨fr', hG', hK⟩ := hG.putd h2 (hv2 hs)
        exact ⟨c', fr', _, _, rfl, hG', hK⟩
    cases dr with
    | true => cases g <;> cases sq <;> exact Stuck.out hk
    | false =>
      cases g with
      | none =>
        have hk2 : force v (fun v => forceH hp' fun hp' => p ∧ putK E.N fr o.dst v fun fr => K fr hp' (lenO hp')) := hk
        obtain ⟨hp1, h2⟩ := forceH_ok hp' (force_ok v hk2)
        rw [lenO_eq] at h2
        exact main v id (fun e => by subst e; exact ⟨⟨undef, rfl⟩, fun _ => ⟨undef, rfl⟩⟩) hp1 h2
      | some b =>
        cases sq with
        | false => exact Stuck.out hk
        | true =>
          have hb : b = true := hg
          have hk2 : force v (fun v => forceH hp' fun hp' => fork b (p ∧ putK E.N fr o.dst (.gd b v) fun fr => K fr hp' (lenO hp')) (putK E.N fr o.dst (.gd b v) fun fr => K fr hp nx)) := hk
          obtain ⟨hp1, h2⟩ := (fork_out (forceH_ok hp' (force_ok v hk2))).1 hb
          rw [lenO_eq] at h2
          refine main (.gd b v) (fun hs => gd_sat hb hs) (fun e => ?_) hp1 h2
          subst e
          exact ⟨gd_sat hb ⟨undef, rfl⟩, fun _ => gd_sat hb ⟨undef, rfl⟩⟩

/-- An operation that is passed over. -/
theorem skip_ok (h : Gam W0 X E.N c fr hp nx a) (dr sq : Bool) (b : Bool) (hb : b = false) (r : R) {K : Post} (hk : stepR E.N dr sq fr hp nx o.dst (some b) r K) : Is W0 X E.N K (a.put o.dst undef) c.w := by
  have fin : ∀ v, putK E.N fr o.dst (.gd b v) (fun fr => K fr hp nx) → Is W0 X E.N K (a.put o.dst undef) c.w := fun v hput => by
    obtain ⟨fr', hG, hK⟩ := h.putd hput (gd_skip hb)
    exact ⟨c, fr', hp, nx, rfl, hG, hK⟩
  cases r with
  | no => exact Stuck.out hk
  | ok v => exact fin v (force_ok v hk)
  | ob p v => exact fin v (force_ok v hk).2
  | call r => exact fin r.res (force_ok r.res hk).2
  | new v ob => cases dr <;> exact Stuck.out hk
  | set v i ob => cases dr <;> exact Stuck.out hk
  | upd v i ob => cases dr <;> exact Stuck.out hk
  | any p F => cases dr <;> cases sq <;> exact Stuck.out hk
  | act m p v hp' =>
    cases dr with
    | true => cases sq <;> exact Stuck.out hk
    | false =>
      cases sq with
      | false => exact Stuck.out hk
      | true =>
        have hk2 : force v (fun v => forceH hp' fun hp' => fork b (p ∧ putK E.N fr o.dst (.gd b v) fun fr => K fr hp' (lenO hp')) (putK E.N fr o.dst (.gd b v) fun fr => K fr hp nx)) := hk
        exact fin v ((fork_out (forceH_ok hp' (force_ok v hk2))).2 hb)

/-- A pick. -/
theorem pick_ok {g x : Bool} (hg : g = true) {p q : AV} {vp vq : Value} (hp' : sat p c [vp]) (hq : sat q c [vq]) {K : Bool → Prop} (hk : pickB g x p q K) : ∃ y, K y ∧ (if x = true then vp else vq) = .bool y := by
  have val : ∀ {b : Bool} {v : Value}, sat (.v (.bool b)) c [v] → v = .bool b := fun h => by simpa [sat] using h
  have gval : ∀ {d b : Bool} {v : Value}, sat (.gd d (.v (.bool b))) c [v] → d = true → v = .bool b := fun h hd => by
    obtain ⟨z, hz, h1, _⟩ := h
    simp only [List.cons.injEq, and_true] at hz
    subst hz
    exact val (h1 hd)
  unfold pickB at hk
  split at hk
  · refine ⟨_, hk, ?_⟩
    cases x <;> simp [val hp', val hq]
  · refine ⟨_, hk.2, ?_⟩
    cases x
    · simp [val hq]
    · simp [gval hp' (hk.1 hg rfl)]
  · refine ⟨_, hk.2, ?_⟩
    cases x
    · simp [gval hq (hk.1 hg rfl)]
    · simp [val hp']
  · refine ⟨_, hk.2.2, ?_⟩
    cases x
    · simp [gval hq (hk.2.1 hg rfl)]
    · simp [gval hp' (hk.1 hg rfl)]
  · refine ⟨_, hk.2, ?_⟩
    cases x
    · simp [val hq]
    · exact (hk.1 hg rfl).elim
  · refine ⟨_, hk.2, ?_⟩
    cases x
    · exact (hk.1 hg rfl).elim
    · simp [val hp']
  · exact hk.elim
theorem pick_K {g x : Bool} {p q : AV} {K : Bool → Prop} (hk : pickB g x p q K) : ∃ y, K y := by
  unfold pickB at hk
  split at hk
  · exact ⟨_, hk⟩
  · exact ⟨_, hk.2⟩
  · exact ⟨_, hk.2⟩
  · exact ⟨_, hk.2.2⟩
  · exact ⟨_, hk.2⟩
  · exact ⟨_, hk.2⟩
  · exact hk.elim

theorem run_pick {x p q : Operand} (hop : o.op = .pick x p q) {b : Bool} (hb : a.eval x = .bool b) (w : World) : (execOp a.eval o).run P w = .ok (.value (if b = true then a.eval p else a.eval q)) w := by
  unfold execOp; rw [hop]
  simp only [hb, asBool, Sem.run_bind, Sem.run_pure, Result.andThen_ok]

theorem soft_good {sq : Bool} {g : Option Bool} {r : R} {N : Nat} (h : GoodR P W0 X N c fr hp nx a o r) : GoodR P W0 X N c fr hp nx a o (soft sq g r) := by
  unfold soft
  cases sq with
  | false => exact h
  | true =>
    cases g with
    | none => exact h
    | some b => cases r <;> first | exact h | exact fun hf => hf.elim
/-- One operation, its guard's Bool known: carried out, or passed over. -/
theorem stepO_exec (hE : EnvOk P E) (h : Gam W0 X E.N c fr hp nx a) (dr sq : Bool) (g : Option Bool) (hg : g.getD true = true) {K : Post} (hk : stepO E dr sq fr hp nx o g K) : o.wp P a c.w (Is W0 X E.N K) Qe := by
  unfold stepO at hk
  split at hk
  · rename_i x p q hop
    split at hk
    · rename_i b hb
      have ho : (∀ y ∈ [x], sat (opd fr y) c [a.eval y]) ∧ pickO E.N fr hp nx o.dst g b (raw fr p) (raw fr q) K := by
        unfold obsO at hk
        cases g with
        | none => exact obs_ok h rfl _ hk
        | some g => exact obs_ok h hg _ hk
      have hx := ho.1 x (by simp)
      rw [hb] at hx
      have hxv : a.eval x = .bool b := by simpa [sat] using hx
      have hpk := ho.2
      unfold pickO at hpk
      unfold Oper.wp
      rw [run_pick hop hxv, Oper.upon_value]
      cases g with
      | none =>
        obtain ⟨y, hy, e⟩ := pick_ok rfl (raw_ok h p) (raw_ok h q) hpk
        rw [e]
        obtain ⟨fr', hG, hK⟩ := h.putd hy (rfl : sat (.v (.bool y)) c [.bool y])
        exact ⟨c, fr', hp, nx, rfl, hG, hK⟩
      | some g =>
        obtain ⟨y, hy, e⟩ := pick_ok hg (raw_ok h p) (raw_ok h q) hpk
        rw [e]
        obtain ⟨fr', hG, hK⟩ := h.putd hy (gd_sat hg (rfl : sat (.v (.bool y)) c [.bool y]))
        exact ⟨c, fr', hp, nx, rfl, hG, hK⟩
    · exact hk.elim
  · have ho : (∀ y ∈ o.op.operands.toList, sat (opd fr y) c [a.eval y]) ∧ stepR E.N dr sq fr hp nx o.dst g (soft sq g (evalOp E (opd fr) hp nx o.op)) K := by
      unfold obsO at hk
      cases g with
      | none => exact obs_ok h rfl _ hk
      | some g => exact obs_ok h hg _ hk
    exact exec_ok h dr sq g hg _ (soft_good (eval_good hE h o.op rfl ho.1)) ho.2

theorem stepO_skip (h : Gam W0 X E.N c fr hp nx a) (dr sq : Bool) (b : Bool) (hb : b = false) {K : Post} (hk : stepO E dr sq fr hp nx o (some b) K) : Is W0 X E.N K (a.put o.dst undef) c.w := by
  unfold stepO at hk
  split at hk
  · split at hk
    · have hpk := obs_K _ hk
      unfold pickO at hpk
      obtain ⟨y, hy⟩ := pick_K hpk
      obtain ⟨fr', hG, hK⟩ := h.putd hy (gd_skip hb)
      exact ⟨c, fr', hp, nx, rfl, hG, hK⟩
    · exact hk.elim
  · exact skip_ok h dr sq b hb _ (obs_K _ hk)

theorem dstAt_ok : ∀ (l : List Oper) (j : Nat) {d : Nat}, dstAt l j = some d → (l[j]?).bind (·.dst) = some d
  | o :: r, 0, d, h => by simpa [dstAt] using h
  | o :: r, j + 1, d, h => by simpa [dstAt] using dstAt_ok r j h

/-- The guard's Bool is what the machine reads. -/
theorem guard_ok (h : Gam W0 X E.N c fr hp nx a) {all : List Oper} {j d : Nat} {want : Bool} (hgd : o.guard = some (j, want)) (hd : dstAt all j = some d) {K : Bool → Prop} (hk : guardOf fr d want K) :
    ∃ g, K g ∧ Region.wanted o (yielded all.toArray a.tmps) = g := by
  have hy : yielded all.toArray a.tmps j = match a.tmps[d]? with | some (.bool b) => some b | _ => none := by
    have := dstAt_ok all j hd
    unfold yielded
    simp only [List.getElem?_toArray, this, Option.bind_some]
    generalize a.tmps[d]? = q
    cases q with
    | none => rfl
    | some v => cases v <;> rfl
  have hget : ∀ v : Value, v ≠ undef → a.tmps.getD d undef = v → a.tmps[d]? = some v := fun v hv he => by
    by_cases hlt : d < a.tmps.size
    · simp [Array.getD, hlt] at he
      simp [hlt, he]
    · simp [Array.getD, hlt] at he
      exact absurd he.symm hv
  have hf := h.f d
  unfold guardOf at hk
  unfold Region.wanted
  rw [hgd]
  simp only [hy]
  split at hk
  · rename_i b e
    rw [e] at hf
    have hv : a.tmps.getD d undef = .bool b := by simpa [sat] using hf
    rw [hget _ (by simp [undef]) hv]
    exact ⟨_, hk, by simp⟩
  · rename_i g' b e
    rw [e] at hf
    obtain ⟨y, hy', h1, h2⟩ := hf
    have hyv : a.tmps.getD d undef = y := by simpa using hy'
    cases g' with
    | true =>
      have hb : y = .bool b := by simpa [sat] using h1 rfl
      rw [hget _ (by simp [undef]) (hyv.trans hb)]
      exact ⟨_, hk, by simp⟩
    | false =>
      have hu := h2 rfl
      refine ⟨_, hk, ?_⟩
      have : (match a.tmps[d]? with | some (Value.bool b) => some b | _ => none) = none := by
        rw [hu] at hyv
        by_cases hlt : d < a.tmps.size
        · simp [Array.getD, hlt] at hyv
          simp [hlt, hyv, undef]
        · simp [hlt]
      rw [this]; simp
  · exact hk.elim

/-- An operation behind its guard, carried out or passed over. -/
theorem stepS_exec (hE : EnvOk P E) (h : Gam W0 X E.N c fr hp nx a) (dr sq : Bool) {K : Post} (hk : stepS E dr sq fr hp nx o true K) : o.wp P a c.w (Is W0 X E.N K) Qe := by
  unfold stepS at hk
  cases hm : makesO o with
  | true => rw [hm] at hk; exact stepO_exec hE h dr sq none rfl hk.2
  | false => rw [hm] at hk; exact stepO_exec hE h dr sq (some true) rfl hk
theorem stepS_skip (h : Gam W0 X E.N c fr hp nx a) (dr sq : Bool) {K : Post} (hk : stepS E dr sq fr hp nx o false K) : Is W0 X E.N K (a.put o.dst undef) c.w := by
  unfold stepS at hk
  cases hm : makesO o with
  | true => rw [hm] at hk; exact absurd hk.1 (by simp)
  | false => rw [hm] at hk; exact stepO_skip h dr sq false rfl hk
theorem stepG_ok (hE : EnvOk P E) (all : List Oper) (dr sq : Bool) (h : Gam W0 X E.N c fr hp nx a) {K : Post} (hk : stepG E dr sq all o fr hp nx K) :
    if Region.wanted o (yielded all.toArray a.tmps) then o.wp P a c.w (Is W0 X E.N K) Qe else Is W0 X E.N K (a.put o.dst undef) c.w := by
  unfold stepG at hk
  cases hgd : o.guard with
  | none =>
    simp only [hgd] at hk
    rw [if_pos (by simp [Region.wanted, hgd])]
    exact stepO_exec hE h dr sq none rfl hk
  | some p =>
    obtain ⟨j, want⟩ := p
    simp only [hgd] at hk
    cases hd : dstAt all j with
    | none => simp [hd] at hk
    | some d =>
      simp only [hd] at hk
      obtain ⟨g, hK, hw⟩ := guard_ok h hgd hd hk
      rw [hw]
      cases hgb : g with
      | true =>
        rw [if_pos rfl]
        subst hgb
        exact stepS_exec hE h dr sq hK
      | false =>
        rw [if_neg (by simp)]
        subst hgb
        exact stepS_skip h dr sq hK

/-- A plain region's operations. -/
theorem runOps_ok (hE : EnvOk P E) (all : List Oper) : ∀ (l : List Oper) {c : Cx} {fr : Fr} {hp : List AO} {nx : Nat} {a : Act} {Q : Post}, runOps E all l fr hp nx Q → Gam W0 X E.N c fr hp nx a →
    (∀ a' w', Is W0 X E.N Q a' w' → Qe .normal a' w') → wpList P all.toArray Qe l a c.w
  | [], c, fr, hp, nx, a, Q, hk, h, hq => hq a c.w ⟨c, fr, hp, nx, rfl, h, hk⟩
  | o :: rest, c, fr, hp, nx, a, Q, hk, h, hq => by
    have next : ∀ a' w', Is W0 X E.N (fun fr hp nx => runOps E all rest fr hp nx Q) a' w' → wpList P all.toArray Qe rest a' w' := by
      rintro a' w' ⟨c', fr', hp', nx', rfl, hG, hK⟩
      exact runOps_ok hE all rest hK hG hq
    have hs := stepG_ok (Qe := Qe) hE all false true h hk
    unfold wpList
    split
    · rename_i hw
      rw [if_pos hw] at hs
      exact .inl (Oper.wp_mono next hs)
    · rename_i hw
      rw [if_neg hw] at hs
      exact next _ _ hs
end

end Go.Proofs.Ytbgcgokikekmoaa.Eng

/- ENGINE 2, 8: a region that draws its order: the lexical run serves every order. -/
namespace Go.Proofs.Ytbgcgokikekmoaa.Eng
set_option linter.unusedVariables false
set_option linter.unusedSimpArgs false
open Go Go.RowKit

def putF (d : Option Nat) (v : AV) (fr : Fr) : Fr :=
  match d with
  | some d => (d, v) :: fr
  | none => fr

theorem force_swap : ∀ (x : AV) {K K' : AV → Prop}, force x K → K' x → force x K'
  | .u, _, _, _, h => h
  | .v x, _, _, hk, h => by cases x <;> first | exact h | exact hk.elim
  | .nil, _, _, _, h => h
  | .cons a b, K, K', hk, h => force_swap a hk (force_swap b (K := fun t => K (.cons a t)) (force_ok a hk) h)
  | .agg l, _, _, hk, h => force_swap l hk h
  | .tup l, _, _, hk, h => force_swap l hk h
  | .fn _ l, _, _, hk, h => force_swap l hk h
  | .gd _ x, _, _, hk, h => force_swap x hk h
  | .ptr _ _, _, _, _, h => h
  | .sc _ _ _ _ _, _, _, _, h => h
  | .rl _ _ _, _, _, _, h => h
  | .rc _ _ _, _, _, _, h => h
  | .em, _, _, _, h => h
  | .rp _ _ _, _, _, _, h => h
  | .ow _ _ _, _, _, _, h => h
  | .ws _ _ _ _, _, _, _, h => h
  | .op _ _ _ _, _, _, _, h => h
  | .iw _ _ _ _ _ _, _, _, _, h => h
  | .ip _ _ _ _ _ _ _, _, _, _, h => h
  | .mp _, _, _, _, h => h
theorem forceO_swap (o : AO) {K K' : AO → Prop} (hk : forceO o K) (h : K' o) : forceO o K' := by
  cases o with
  | cells l => exact force_swap l hk h
  | _ => exact h
theorem forceH_swap : ∀ (l : List AO) {K K' : List AO → Prop}, forceH l K → K' l → forceH l K'
  | [], _, _, _, h => h
  | o :: r, K, K', hk, h => forceO_swap o hk (forceH_swap r (K := fun r => K (o :: r)) (forceO_ok o hk) h)
theorem snocK_mk : ∀ (l : List AO) {x : AO} {K : List AO → Prop}, K (l ++ [x]) → snocK l x K
  | [], _, _, h => h
  | o :: r, x, K, h => snocK_mk r (K := fun r' => K (o :: r')) h
theorem setK_mk : ∀ (l : List AO) {n : Nat} {x : AO} {K : List AO → Prop}, n < l.length → K (l.set n x) → setK l n x K
  | [], _, _, _, h, _ => absurd h (Nat.not_lt_zero _)
  | _ :: r, 0, _, _, _, h => h
  | o :: r, n + 1, x, K, hl, h => setK_mk r (K := fun r' => K (o :: r')) (Nat.lt_of_succ_lt_succ hl) h
theorem putK_F {N : Nat} {fr : Fr} {d : Option Nat} {v : AV} {K : Fr → Prop} (h : putK N fr d v K) : K (putF d v fr) ∧ ∀ fr' (K' : Fr → Prop), K' (putF d v fr') → putK N fr' d v K' := by
  unfold putK at h
  cases d with
  | none => exact ⟨h, fun _ _ h => h⟩
  | some i =>
    simp only at h
    cases hb : Nat.blt i N with
    | true => simp only [hb, cond_true] at h; exact ⟨h, fun fr' K' h' => by unfold putK; simp only [hb, cond_true]; exact h'⟩
    | false => simp only [hb, cond_false] at h

/-- The frame, the objects behind an operation. -/
abbrev To (d : Option Nat) (v : AV) (fr : Fr) (hp : List AO) (nx : Nat) : Post := fun fr' hp' nx' => fr' = putF d v fr ∧ hp' = hp ∧ nx' = nx

section
variable {E : Env} {fr : Fr} {hp : List AO} {nx : Nat} {o : Oper} {N : Nat}

theorem stepR_loc {dr : Bool} {d : Option Nat} {g : Option Bool} {r : R} {K : Post} (hk : stepR N dr false fr hp nx d g r K) :
    ∃ v hp' nx', K (putF d v fr) hp' nx' ∧ (dr = true → hp' = hp ∧ nx' = nx) ∧ ∀ fr', stepR N dr false fr' hp nx d g r (To d v fr' hp' nx') := by
  cases r with
  | no => exact Stuck.out hk
  | any p F => cases g <;> cases dr <;> exact Stuck.out hk
  | ok v =>
    have h1 := force_ok v hk
    cases g with
    | none => exact ⟨v, hp, nx, (putK_F h1).1, fun _ => ⟨rfl, rfl⟩, fun fr' => force_swap v hk ((putK_F h1).2 fr' _ ⟨rfl, rfl, rfl⟩)⟩
    | some b => exact ⟨.gd b v, hp, nx, (putK_F h1).1, fun _ => ⟨rfl, rfl⟩, fun fr' => force_swap v hk ((putK_F h1).2 fr' _ ⟨rfl, rfl, rfl⟩)⟩
  | ob p v =>
    have h1 := force_ok v hk
    cases g with
    | none => exact ⟨v, hp, nx, (putK_F h1.2).1, fun _ => ⟨rfl, rfl⟩, fun fr' => force_swap v hk ⟨h1.1, (putK_F h1.2).2 fr' _ ⟨rfl, rfl, rfl⟩⟩⟩
    | some b => exact ⟨.gd b v, hp, nx, (putK_F h1.2).1, fun _ => ⟨rfl, rfl⟩, fun fr' => force_swap v hk ⟨h1.1, (putK_F h1.2).2 fr' _ ⟨rfl, rfl, rfl⟩⟩⟩
  | call r =>
    have h1 := force_ok r.res hk
    cases g with
    | none => exact ⟨r.res, hp, nx, (putK_F h1.2).1, fun _ => ⟨rfl, rfl⟩, fun fr' => force_swap r.res hk ⟨h1.1, (putK_F h1.2).2 fr' _ ⟨rfl, rfl, rfl⟩⟩⟩
    | some b => exact ⟨.gd b r.res, hp, nx, (putK_F h1.2).1, fun _ => ⟨rfl, rfl⟩, fun fr' => force_swap r.res hk ⟨h1.1, (putK_F h1.2).2 fr' _ ⟨rfl, rfl, rfl⟩⟩⟩
  | new v ob =>
    cases g with
    | some b => cases dr <;> exact Stuck.out hk
    | none =>
      cases dr with
      | true => exact Stuck.out hk
      | false =>
        have hk2 : forceO ob (fun o' => snocK hp o' fun hp => putK N fr d v fun fr => K fr hp (nx + 1)) := hk
        have h1 := snocK_ok hp (forceO_ok ob hk2)
        exact ⟨v, hp ++ [ob], nx + 1, (putK_F h1).1, fun h => (by cases h), fun fr' => by
          show forceO ob (fun o' => snocK hp o' fun hp' => putK N fr' d v fun fr'' => To d v fr' (hp ++ [ob]) (nx + 1) fr'' hp' (nx + 1))
          exact forceO_swap ob hk2 (snocK_mk hp ((putK_F h1).2 fr' _ ⟨rfl, rfl, rfl⟩))⟩
  | set v i ob =>
    cases g with
    | some b => cases dr <;> exact Stuck.out hk
    | none =>
      cases dr with
      | true => exact Stuck.out hk
      | false =>
        have hk2 : forceO ob (fun o' => setK hp i o' fun hp => putK N fr d v fun fr => K fr hp nx) := hk
        obtain ⟨hi, h1⟩ := setK_ok hp (forceO_ok ob hk2)
        exact ⟨v, hp.set i ob, nx, (putK_F h1).1, fun h => (by cases h), fun fr' => by
          show forceO ob (fun o' => setK hp i o' fun hp' => putK N fr' d v fun fr'' => To d v fr' (hp.set i ob) nx fr'' hp' nx)
          exact forceO_swap ob hk2 (setK_mk hp hi ((putK_F h1).2 fr' _ ⟨rfl, rfl, rfl⟩))⟩
  | upd v i ob =>
    cases g with
    | some b => cases dr <;> exact Stuck.out hk
    | none =>
      cases dr with
      | true => exact Stuck.out hk
      | false =>
        have hk2 : forceO ob (fun o' => setK hp i o' fun hp => putK N fr d v fun fr => K fr hp nx) := hk
        obtain ⟨hi, h1⟩ := setK_ok hp (forceO_ok ob hk2)
        exact ⟨v, hp.set i ob, nx, (putK_F h1).1, fun h => (by cases h), fun fr' => by
          show forceO ob (fun o' => setK hp i o' fun hp' => putK N fr' d v fun fr'' => To d v fr' (hp.set i ob) nx fr'' hp' nx)
          exact forceO_swap ob hk2 (setK_mk hp hi ((putK_F h1).2 fr' _ ⟨rfl, rfl, rfl⟩))⟩

  | act m p v hp' =>
    cases g with
    | some b => cases dr <;> exact Stuck.out hk
    | none =>
      cases dr with
      | true => exact Stuck.out hk
      | false =>
        have hk2 : force v (fun v => forceH hp' fun hp' => p ∧ putK N fr d v fun fr => K fr hp' (lenO hp')) := hk
        have h1 := forceH_ok hp' (force_ok v hk2)
        exact ⟨v, hp', lenO hp', (putK_F h1.2).1, fun h => (by cases h), fun fr' => by
          show force v (fun v => forceH hp' fun hp'' => p ∧ putK N fr' d v fun fr'' => To d _ fr' hp' (lenO hp') fr'' hp'' (lenO hp''))
          exact force_swap v hk2 (forceH_swap hp' (force_ok v hk2) ⟨h1.1, (putK_F h1.2).2 fr' _ ⟨rfl, rfl, rfl⟩⟩)⟩

theorem foldr_congr {ρ ρ' : Operand → AV} (l : List Operand) (h : ∀ x ∈ l, ρ x = ρ' x) : (l.foldr (fun x l => AV.cons (ρ x) l) .nil) = (l.foldr (fun x l => AV.cons (ρ' x) l) .nil) := by
  induction l with
  | nil => rfl
  | cons x l ih => simp only [List.foldr_cons]; rw [h x (by simp), ih fun y hy => h y (by simp [hy])]

theorem evalOp_congr {ρ ρ' : Operand → AV} (op : Op) (h : ∀ x ∈ op.operands.toList, ρ x = ρ' x) : evalOp E ρ hp nx op = evalOp E ρ' hp nx op := by
  cases op with
  | build t parts =>
    have : (parts.toList.map fun p => (p.1, ρ p.2)) = (parts.toList.map fun p => (p.1, ρ' p.2)) := by
      refine List.map_congr_left fun p hp' => ?_
      rw [h p.2 (by simp [Op.operands]; exact ⟨p.1, by simpa using hp'⟩)]
    simp only [evalOp, this]
  | buildSlice t n parts =>
    have : (parts.toList.map fun p => (p.1, ρ p.2)) = (parts.toList.map fun p => (p.1, ρ' p.2)) := by
      refine List.map_congr_left fun p hp' => ?_
      rw [h p.2 (by simp [Op.operands]; exact ⟨p.1, by simpa using hp'⟩)]
    simp only [evalOp, this]
  | call c =>
    have list : ∀ l : List Operand, (∀ x ∈ l, ρ x = ρ' x) → (l.foldr (fun x l => AV.cons (ρ x) l) .nil) = (l.foldr (fun x l => AV.cons (ρ' x) l) .nil) := foldr_congr
    simp only [evalOp]
    cases hc : c.callee with
    | value f =>
      have hf := h f (by simp [Op.operands, Call.operands, hc])
      have ha := list c.args.toList fun x hx => h x (by simp [Op.operands, Call.operands, hc]; exact .inr (by simpa using hx))
      simp only [hf, ha]
    | builtin b =>
      have ha := list c.args.toList fun x hx => h x (by simp [Op.operands, Call.operands, hc]; simpa using hx)
      simp only [ha]
    | _ => rfl
  | makeFunc f first cap =>
    have ha := foldr_congr cap.toList fun x hx => h x (by simp [Op.operands]; exact .inr (by simpa using hx))
    cases f <;> simp only [evalOp, ha]
  | slice t x lo hi mx =>
    have hl : lo.map ρ = lo.map ρ' := by
      cases lo with
      | none => rfl
      | some p => simp [h p (by simp [Op.operands])]
    have hh : hi.map ρ = hi.map ρ' := by
      cases hi with
      | none => rfl
      | some p => simp [h p (by simp [Op.operands])]
    have hm : mx.map ρ = mx.map ρ' := by
      cases mx with
      | none => rfl
      | some p => simp [h p (by simp [Op.operands])]
    simp only [evalOp, hl, hh, hm, h x (by simp [Op.operands])]
  | move x => simp only [evalOp, h x (by simp [Op.operands])]
  | assign x => simp only [evalOp, h x (by simp [Op.operands])]
  | box t x => simp only [evalOp, h x (by simp [Op.operands])]
  | load t x => simp only [evalOp, h x (by simp [Op.operands])]
  | nilCheck x => simp only [evalOp, h x (by simp [Op.operands])]
  | unOp q t x => simp only [evalOp, h x (by simp [Op.operands])]
  | convert q t x => simp only [evalOp, h x (by simp [Op.operands])]
  | extract x i => simp only [evalOp, h x (by simp [Op.operands])]
  | fieldAddr t x i => simp only [evalOp, h x (by simp [Op.operands])]
  | field t x i => simp only [evalOp, h x (by simp [Op.operands])]
  | store t x y => simp only [evalOp, h x (by simp [Op.operands]), h y (by simp [Op.operands])]
  | binOp q t x y t' => simp only [evalOp, h x (by simp [Op.operands]), h y (by simp [Op.operands])]
  | indexAddr t x y => simp only [evalOp, h x (by simp [Op.operands]), h y (by simp [Op.operands])]
  | index t x y => simp only [evalOp, h x (by simp [Op.operands]), h y (by simp [Op.operands])]
  | makeSlice t x y => simp only [evalOp, h x (by simp [Op.operands]), h y (by simp [Op.operands])]
  | insert t m k v => simp only [evalOp, h m (by simp [Op.operands]), h k (by simp [Op.operands]), h v (by simp [Op.operands])]
  | lookup t m k b => simp only [evalOp, h m (by simp [Op.operands]), h k (by simp [Op.operands])]
  | makeMap t r => cases r <;> rfl
  | _ => rfl

def Agree (all : List Oper) (o : Oper) (fr fr' : Fr) : Prop := ∀ t ∈ lookAt all o, look fr' t = look fr t

theorem raw_agree {all : List Oper} {fr' : Fr} (ha : Agree all o fr fr') (x : Operand) (hx : x ∈ o.op.operands.toList) : raw fr' x = raw fr x := by
  cases x with
  | tmp t =>
    refine ha t ?_
    unfold lookAt
    refine List.mem_append_left _ (List.mem_filterMap.2 ⟨.tmp t, hx, rfl⟩)
  | _ => rfl

theorem obs_loc {fr' : Fr} {g : Bool} : ∀ (l : List Operand) {K K' : Prop}, (∀ x ∈ l, raw fr' x = raw fr x) → obs fr g l K → (K → K') → obs fr' g l K'
  | [], K, K', _, hk, h => h hk
  | x :: r, K, K', ha, hk, h => by
    unfold obs at hk ⊢
    rw [ha x (by simp)]
    split at hk
    · exact ⟨hk.1, obs_loc r (fun y hy => ha y (by simp [hy])) hk.2 h⟩
    · exact obs_loc r (fun y hy => ha y (by simp [hy])) hk h

theorem obsO_loc {fr' : Fr} {g : Option Bool} {l : List Operand} {K K' : Prop} (ha : ∀ x ∈ l, raw fr' x = raw fr x) (hk : obsO fr g l K) (h : K → K') : obsO fr' g l K' := by
  cases g with
  | none => exact obs_loc l ha hk h
  | some g => exact obs_loc l ha hk h
theorem obsO_K {g : Option Bool} {l : List Operand} {K : Prop} (hk : obsO fr g l K) : K := by
  cases g with
  | none => exact obs_K l hk
  | some g => exact obs_K l hk

theorem pickB_loc {g x : Bool} {p q : AV} {K : Bool → Prop} (hk : pickB g x p q K) : ∃ y, K y ∧ ∀ K' : Bool → Prop, K' y → pickB g x p q K' := by
  unfold pickB at hk
  split at hk
  · exact ⟨_, hk, fun K' h => h⟩
  · exact ⟨_, hk.2, fun K' h => ⟨hk.1, h⟩⟩
  · exact ⟨_, hk.2, fun K' h => ⟨hk.1, h⟩⟩
  · exact ⟨_, hk.2.2, fun K' h => ⟨hk.1, hk.2.1, h⟩⟩
  · exact ⟨_, hk.2, fun K' h => ⟨hk.1, h⟩⟩
  · exact ⟨_, hk.2, fun K' h => ⟨hk.1, h⟩⟩
  · exact hk.elim

theorem stepO_loc {all : List Oper} {dr : Bool} {g : Option Bool} {K : Post} (hk : stepO E dr false fr hp nx o g K) :
    ∃ v hp' nx', K (putF o.dst v fr) hp' nx' ∧ (dr = true → hp' = hp ∧ nx' = nx) ∧ ∀ fr', Agree all o fr fr' → stepO E dr false fr' hp nx o g (To o.dst v fr' hp' nx') := by
  unfold stepO at hk
  split at hk
  · rename_i x p q hop
    split at hk
    · rename_i b hb
      have hpk := obsO_K hk
      have main : ∃ v, K (putF o.dst v fr) hp nx ∧ ∀ fr', pickO E.N fr' hp nx o.dst g b (raw fr p) (raw fr q) (To o.dst v fr' hp nx) := by
        unfold pickO at hpk
        cases g with
        | none =>
          obtain ⟨y, hy, hs⟩ := pickB_loc hpk
          exact ⟨.v (.bool y), (putK_F hy).1, fun fr' => by
            show pickB true b (raw fr p) (raw fr q) fun z => putK E.N fr' o.dst (.v (.bool z)) fun fr'' => To o.dst (.v (.bool y)) fr' hp nx fr'' hp nx
            exact hs _ ((putK_F hy).2 fr' _ ⟨rfl, rfl, rfl⟩)⟩
        | some g =>
          obtain ⟨y, hy, hs⟩ := pickB_loc hpk
          exact ⟨.gd g (.v (.bool y)), (putK_F hy).1, fun fr' => by
            show pickB g b (raw fr p) (raw fr q) fun z => putK E.N fr' o.dst (.gd g (.v (.bool z))) fun fr'' => To o.dst (.gd g (.v (.bool y))) fr' hp nx fr'' hp nx
            exact hs _ ((putK_F hy).2 fr' _ ⟨rfl, rfl, rfl⟩)⟩
      obtain ⟨v, hK, hs⟩ := main
      refine ⟨v, hp, nx, hK, fun _ => ⟨rfl, rfl⟩, fun fr' ha => ?_⟩
      have hr : ∀ z ∈ [x, p, q], raw fr' z = raw fr z := fun z hz => raw_agree ha z (by rw [hop]; simpa [Op.operands] using hz)
      unfold stepO
      simp only [hop]
      have hb' : opd fr' x = .v (.bool b) := by unfold opd at hb ⊢; rw [hr x (by simp)]; exact hb
      simp only [hb']
      rw [hr p (by simp), hr q (by simp)]
      exact obsO_loc (fun z hz => hr z (by simp at hz; simp [hz])) hk fun _ => hs fr'
    · exact hk.elim
  · rename_i hne
    have hpk := obsO_K hk
    obtain ⟨v, hp', nx', hK, hd, hs⟩ := stepR_loc hpk
    refine ⟨v, hp', nx', hK, hd, fun fr' ha => ?_⟩
    have hr : ∀ z ∈ o.op.operands.toList, raw fr' z = raw fr z := fun z hz => raw_agree ha z hz
    have he : evalOp E (opd fr') hp nx o.op = evalOp E (opd fr) hp nx o.op := evalOp_congr o.op fun z hz => by unfold opd; rw [hr z hz]
    unfold stepO
    split
    · rename_i x p q hop
      exact absurd hop (hne x p q)
    · rw [he]
      exact obsO_loc hr hk fun _ => hs fr'

theorem stepS_loc {all : List Oper} {dr : Bool} {g : Bool} {K : Post} (hk : stepS E dr false fr hp nx o g K) :
    ∃ v hp' nx', K (putF o.dst v fr) hp' nx' ∧ (dr = true → hp' = hp ∧ nx' = nx) ∧ ∀ fr', Agree all o fr fr' → stepS E dr false fr' hp nx o g (To o.dst v fr' hp' nx') := by
  unfold stepS at hk
  cases hm : makesO o with
  | true =>
    rw [hm] at hk
    obtain ⟨v, hp', nx', hK, hd, hs⟩ := stepO_loc (all := all) hk.2
    exact ⟨v, hp', nx', hK, hd, fun fr' ha => by unfold stepS; rw [hm]; exact ⟨hk.1, hs fr' ha⟩⟩
  | false =>
    rw [hm] at hk
    obtain ⟨v, hp', nx', hK, hd, hs⟩ := stepO_loc (all := all) hk
    exact ⟨v, hp', nx', hK, hd, fun fr' ha => by unfold stepS; rw [hm]; exact hs fr' ha⟩
theorem stepG_loc {all : List Oper} {dr : Bool} {K : Post} (hk : stepG E dr false all o fr hp nx K) :
    ∃ v hp' nx', K (putF o.dst v fr) hp' nx' ∧ (dr = true → hp' = hp ∧ nx' = nx) ∧ ∀ fr', Agree all o fr fr' → stepG E dr false all o fr' hp nx (To o.dst v fr' hp' nx') := by
  unfold stepG at hk
  cases hgd : o.guard with
  | none =>
    simp only [hgd] at hk
    obtain ⟨v, hp', nx', hK, hd, hs⟩ := stepO_loc (all := all) hk
    exact ⟨v, hp', nx', hK, hd, fun fr' ha => by unfold stepG; simp only [hgd]; exact hs fr' ha⟩
  | some p =>
    obtain ⟨j, want⟩ := p
    simp only [hgd] at hk
    cases hda : dstAt all j with
    | none => simp [hda] at hk
    | some d =>
      simp only [hda] at hk
      have main : ∃ g : Bool, stepS E dr false fr hp nx o g K ∧ ∀ fr', look fr' d = look fr d → ∀ K' : Bool → Prop, K' g → guardOf fr' d want K' := by
        unfold guardOf at hk
        split at hk
        · rename_i b e
          exact ⟨_, hk, fun fr' he K' h => by unfold guardOf; rw [he, e]; exact h⟩
        · rename_i c b e
          exact ⟨_, hk, fun fr' he K' h => by unfold guardOf; rw [he, e]; exact h⟩
        · exact hk.elim
      obtain ⟨g, hg, hgu⟩ := main
      obtain ⟨v, hp', nx', hK, hd, hs⟩ := stepS_loc (all := all) hg
      refine ⟨v, hp', nx', hK, hd, fun fr' ha => ?_⟩
      unfold stepG
      simp only [hgd, hda]
      refine hgu fr' (ha d ?_) _ (hs fr' ha)
      unfold lookAt
      exact List.mem_append_right _ (by simp [hgd, hda])
end

/-! ### More objects, the same step -/
/-- What is there on the left is there on the right. -/
def Alive (hp hp' : List AO) : Prop := ∀ j, liveO (getAO hp j) = true → getAO hp' j = getAO hp j

theorem reach_acc (hp : List AO) : ∀ (d : Nat) (todo acc : List Nat) (i : Nat), i ∈ acc → i ∈ reach hp d todo acc
  | 0, todo, acc, i, h => by cases todo <;> exact h
  | d + 1, [], acc, i, h => h
  | d + 1, k :: r, acc, i, h => by
    simp only [reach]
    cases hk : hasN acc k with
    | true => exact reach_acc hp d r acc i h
    | false => exact reach_acc hp d _ _ i (List.mem_append_left _ h)
theorem live_mem {hp : List AO} : ∀ (l : List Nat), live hp l = true → ∀ i ∈ l, liveO (getAO hp i) = true
  | [], _, i, hi => by cases hi
  | x :: r, h, i, hi => by
    simp only [live, Bool.and_eq_true] at h
    rcases List.mem_cons.1 hi with rfl | hi
    · exact h.1
    · exact live_mem r h.2 i hi
theorem reach_alive {hp hp' : List AO} (ha : Alive hp hp') : ∀ (d : Nat) (todo acc : List Nat), (∀ i ∈ reach hp d todo acc, liveO (getAO hp i) = true) → reach hp' d todo acc = reach hp d todo acc
  | 0, todo, acc, _ => by cases todo <;> rfl
  | d + 1, [], acc, _ => rfl
  | d + 1, k :: r, acc, h => by
    simp only [reach] at h ⊢
    cases hk : hasN acc k with
    | true =>
      rw [hk] at h
      exact reach_alive ha d r acc h
    | false =>
      rw [hk] at h
      simp only [cond_false] at h ⊢
      have hkl : liveO (getAO hp k) = true := h k (reach_acc hp d _ _ k (by simp))
      rw [ha k hkl]
      exact reach_alive ha d _ _ h
theorem live_alive {hp hp' : List AO} (ha : Alive hp hp') : ∀ (l : List Nat), live hp l = true → live hp' l = true
  | [], _ => rfl
  | x :: r, h => by
    simp only [live, Bool.and_eq_true] at h ⊢
    exact ⟨by rw [ha x h.1]; exact h.1, live_alive ha r h.2⟩
theorem lentOf_alive {π0 : List Nat} {hp hp' : List AO} (ha : Alive hp hp') : ∀ (l : List Nat), live hp l = true → lentOf π0 hp' l = lentOf π0 hp l
  | [], _ => rfl
  | x :: r, h => by
    simp only [live, Bool.and_eq_true] at h
    simp only [lentOf, ha x h.1, lentOf_alive ha r h.2]
theorem viewW_alive {Pf Pf' : Nat → Nat → AV} {hp hp' : List AO} (ha : Alive hp hp') (hP : ∀ i o, shut (Pf i o) = true → Pf' i o = Pf i o) : ∀ (v : AV), shut (viewW Pf hp v) = true → viewW Pf' hp' v = viewW Pf hp v
  | .u, hs => by cases hs
  | .v _, _ => rfl
  | .nil, _ => rfl
  | .em, _ => rfl
  | .cons a b, hs => by
    simp only [viewW, shut, Bool.and_eq_true] at hs
    simp only [viewW, viewW_alive ha hP a hs.1, viewW_alive ha hP b hs.2]
  | .agg l, hs => by simp only [viewW, viewW_alive ha hP l hs]
  | .tup l, hs => by simp only [viewW, viewW_alive ha hP l hs]
  | .fn _ l, hs => by simp only [viewW, viewW_alive ha hP l hs]
  | .gd _ _, hs => by cases hs
  | .ptr i o, hs => hP i o hs
  | .rl q t l, _ => rfl
  | .rc q t l, _ => rfl
  | .rp k e o, _ => rfl
  | .ow i k n, hs => by
    have hl : liveO (getAO hp i) = true := by
      simp only [viewW] at hs
      cases hg : getAO hp i with
      | dead => rw [hg] at hs; cases hs
      | void => rw [hg] at hs; cases hs
      | _ => rfl
    simp only [viewW, ha i hl]
  | .ws i k lo n, hs => by
    have hl : liveO (getAO hp i) = true := by
      simp only [viewW] at hs
      cases hg : getAO hp i with
      | dead => rw [hg] at hs; cases hs
      | void => rw [hg] at hs; cases hs
      | _ => rfl
    simp only [viewW, ha i hl]
  | .sc i o n m t, hs => by
    have hl : liveO (getAO hp i) = true := by
      simp only [viewW] at hs
      cases hg : getAO hp i with
      | dead => rw [hg] at hs; cases hs
      | void => rw [hg] at hs; cases hs
      | _ => rfl
    simp only [viewW, ha i hl]
  | .op _ _ _ _, hs => by cases hs
theorem view_alive {hp hp' : List AO} (ha : Alive hp hp') : ∀ (d : Nat) (v : AV), shut (view hp d v) = true → view hp' d v = view hp d v
  | 0, v, hs => viewW_alive ha (fun i o _ => rfl) v hs
  | d + 1, v, hs => by
    refine viewW_alive ha (fun i o hsp => ?_) v hs
    have hl : liveO (getAO hp i) = true := by
      cases hg : getAO hp i with
      | cells l => rfl
      | row q t e l => rfl
      | fz q t l => rfl
      | mt q H t m e l => rfl
      | mpo ka va kt vt l => rfl
      | dead => rw [hg] at hsp; cases hsp
      | void => rw [hg] at hsp; cases hsp
    rw [ha i hl]
    cases hg : getAO hp i with
    | cells l =>
      simp only [hg] at hsp ⊢
      cases hc : (shut (view hp d l) && lenIs l (lenA l)) with
      | false => rw [hc] at hsp; cases hsp
      | true =>
        have h1 := hc
        simp only [Bool.and_eq_true] at h1
        rw [view_alive ha d l h1.1, hc]
    | _ => rfl

section
variable {E : Env} {N : Nat}
def Quiet : R → Prop
  | .ok _ => True
  | .ob _ _ => True
  | .call _ => True
  | _ => False

theorem lift_quiet {x : Option AV} {f : AV → R} (hf : ∀ v, ¬ Quiet (f v)) : ¬ Quiet (lift x f) := by
  cases x with
  | none => exact fun h => h
  | some v => exact hf v

theorem setR_quiet {j o : Nat} {l c v : AV} : ¬ Quiet (setR j l o c v) := by
  unfold setR
  cases ones c with
  | false => exact fun h => h
  | true =>
    simp only [cond_true]
    split <;> exact fun h => h

theorem copyR_quiet {hp : List AO} {k : Nat} {x y : AV} : ¬ Quiet (copyR hp k x y) := by
  unfold copyR
  split
  · split
    · split
      · exact setR_quiet
      · exact fun h => h
    · exact fun h => h
  · exact fun h => h

theorem part_quiet {i : TI} {l : AV} {o : Nat} : Quiet (partR i l o) ∨ partR i l o = .no := by
  rcases partR_ok (i := i) (l := l) (off := o) with ⟨v, hv⟩ | hv
  · rw [hv]; exact .inl trivial
  · exact .inr hv
theorem loadR_alive {hp hp' : List AO} (ha : Alive hp hp') {i : TI} {v : AV} (hq : Quiet (loadR i hp v)) : loadR i hp' v = loadR i hp v := by
  cases v with
  | ptr j o =>
    simp only [loadR] at hq ⊢
    cases hg : getAO hp j with
    | cells l => rw [ha j (by rw [hg]; rfl), hg]
    | _ => simp only [hg] at hq; exact hq.elim
  | op j k x o =>
    simp only [loadR] at hq ⊢
    cases hg : getAO hp j with
    | row q t e l => rw [ha j (by rw [hg]; rfl), hg]
    | fz q t l => rw [ha j (by rw [hg]; rfl), hg]
    | mt q H t m e l => rw [ha j (by rw [hg]; rfl), hg]
    | _ => simp only [hg] at hq; exact (hq : False).elim
  | ip j x o k y z hd =>
    simp only [loadR] at hq ⊢
    cases hg : getAO hp j with
    | mt q H t m e l => rw [ha j (by rw [hg]; rfl), hg]
    | _ => simp only [hg] at hq; exact (hq : False).elim
  | _ => rfl
theorem bif_quiet {b : Bool} {x : R} (h : ¬ Quiet x) : ¬ Quiet (bif b then x else .no) := by
  cases b
  · exact fun h => h
  · exact h
theorem putR_quiet {hp : List AO} {j : Nat} {ows : List Nat} {o : AO} : ¬ Quiet (putR hp j ows o) := by
  unfold putR
  split <;> exact fun h => h
theorem castK_quiet {t t' : Ty} {l : List (El t)} {K : List (El t') → R} (h : ∀ l, ¬ Quiet (K l)) : ¬ Quiet (castK t t' l .no K) := by
  refine castK_ok (P := fun r => ¬ Quiet r) (fun h => h) fun e => ?_
  subst e; exact h _
theorem decK_quiet : ∀ (t : Ty) (l : AV) (K : Bool → El t → R), (∀ q x, ¬ Quiet (K q x)) → ¬ Quiet (decK t l .no K)
  | .nil, l, K, h => by cases l <;> first | exact h _ _ | exact fun h => h
  | .int k r, l, K, h => by
    cases l with
    | cons a m =>
      cases a with
      | v z =>
        cases z with
        | int k' n =>
          simp only [decK]
          split
          · exact decK_quiet r m _ fun q x => h q _
          · exact fun h => h
        | _ => exact fun h => h
      | _ => exact fun h => h
    | _ => exact fun h => h
  | .bool r, l, K, h => by
    cases l with
    | cons a m =>
      cases a with
      | v z =>
        cases z with
        | bool n => exact decK_quiet r m _ fun q x => h q _
        | _ => exact fun h => h
      | _ => exact fun h => h
    | _ => exact fun h => h
  | .str r, l, K, h => by
    cases l with
    | cons a m =>
      cases a with
      | v z =>
        cases z with
        | string n => exact decK_quiet r m _ fun q x => h q _
        | _ => exact fun h => h
      | _ => exact fun h => h
    | _ => exact fun h => h
  | .sl a r, l, K, h => by
    cases l with
    | cons b m =>
      cases b with
      | rl q t l => exact castK_quiet fun l => decK_quiet r m _ fun q' x => h _ _
      | rc q t l => exact castK_quiet fun l => decK_quiet r m _ fun q' x => h _ _
      | em => exact decK_quiet r m _ fun q x => h q _
      | v z =>
        cases z with
        | slice A n cp =>
          cases A with
          | none =>
            simp only [decK]
            cases Nat.beq n 0 with
            | false => exact fun h => h
            | true => exact decK_quiet r m _ fun q x => h q _
          | some ad => exact fun h => h
        | _ => exact fun h => h
      | _ => exact fun h => h
    | _ => exact fun h => h
theorem innerK_any {α : Type} {PP : α → Prop} {no : α} (hno : PP no) : ∀ (t : Ty) (p : Nat) (y : El t) (K : (a : Ty) → List (El a) → α), (∀ a L, PP (K a L)) → PP (innerK no t p y K)
  | .nil, p, y, K, hK => by cases p <;> exact hno
  | .int k r, 0, y, K, hK => hno
  | .bool r, 0, y, K, hK => hno
  | .str r, 0, y, K, hK => hno
  | .sl a r, 0, y, K, hK => hK a y.1
  | .int k r, p + 1, y, K, hK => innerK_any hno r p y.2 K hK
  | .bool r, p + 1, y, K, hK => innerK_any hno r p y.2 K hK
  | .str r, p + 1, y, K, hK => innerK_any hno r p y.2 K hK
  | .sl a r, p + 1, y, K, hK => innerK_any hno r p y.2 K hK
theorem storeR_quiet {i : TI} {hp : List AO} {x y : AV} : ¬ Quiet (storeR i hp x y) := by
  unfold storeR
  split
  · cases lenIs _ i.sz with
    | false => exact fun h => h
    | true =>
      simp only [cond_true]
      split
      · exact lift_quiet fun v h => h
      · exact fun h => h
  · cases (lenIs _ i.sz && !hasN (owsOf _) _) with
    | false => exact fun h => h
    | true =>
      simp only [cond_true]
      split
      · cases Nat.beq (tsz _) _ with
        | false => exact fun h => h
        | true =>
          simp only [cond_true]
          split
          · exact decK_quiet _ _ _ fun q x => putR_quiet
          · exact fun h => h
      · split
        · split
          · refine bif_quiet ?_
            exact updS_ok (PP := fun r => ¬ Quiet r) (by exact fun h => h) _ _ _ _ _ _ (by intro y' _ h; exact h)
          · exact fun h => h
        · exact fun h => h
      · exact fun h => h
  · refine bif_quiet ?_
    split
    · refine innerK_any (PP := fun r => ¬ Quiet r) (by exact fun h => h) _ _ _ _ (fun a L => ?_)
      refine bif_quiet ?_
      split
      · refine decK_quiet _ _ _ (fun q x => ?_)
        exact updS_ok (PP := fun r => ¬ Quiet r) (by exact fun h => h) _ _ _ _ _ _ (by intro y' _ h; exact h)
      · exact fun h => h
    · exact fun h => h
  · exact fun h => h
theorem srcK_quiet {hp : List AO} {t : Ty} {x : AV} {K : Bool → List (El t) → List Nat → R} (h : ∀ q l ows, ¬ Quiet (K q l ows)) : ¬ Quiet (srcK hp t x .no K) := by
  unfold srcK
  split
  · exact castK_quiet fun l => h _ _ _
  · exact castK_quiet fun l => h _ _ _
  · split
    · exact castK_quiet fun l => h _ _ _
    · exact castK_quiet fun l => h _ _ _
    · exact fun h => h
  · split
    · cases Nat.beq (tsz _) _ with
      | false => exact fun h => h
      | true => exact castK_quiet fun l => h _ _ _
    · cases Nat.beq (tsz _) _ with
      | false => exact fun h => h
      | true => exact castK_quiet fun l => h _ _ _
    · exact fun h => h
  · cases Nat.beq _ 0 with
    | false => exact fun h => h
    | true => exact h _ _ _
  · exact h _ _ _
  · split
    · split
      · rw [decN_eq]
        split
        · exact h _ _ _
        · exact fun h => h
      · exact fun h => h
    · exact fun h => h
  · exact fun h => h
theorem appR_quiet {hp : List AO} {nx : Nat} {e : TypeId} {ie : TI} {t : Ty} {s x : AV} : ¬ Quiet (appR hp nx e ie t s x) := by
  unfold appR
  refine srcK_quiet fun q l ows => ?_
  unfold appQ
  split
  · cases (Nat.beq _ 0 && Nat.beq _ 0) with
    | false => exact fun h => h
    | true => exact fun h => h
  · cases hasN ows _ with
    | true => exact fun h => h
    | false =>
      simp only [cond_false]
      split
      · cases Nat.beq _ e with
        | false => exact fun h => h
        | true => exact castK_quiet fun l h => h
      · exact fun h => h
  · exact castK_quiet fun l h => h
  · exact fun h => h
  · exact fun h => h
theorem appZ_quiet {hp : List AO} {nx : Nat} {e : TypeId} {t : Ty} {z : Value} {s : AV} {n : Int} : ¬ Quiet (appZ hp nx e t z s n) := by
  unfold appZ
  refine decK_quiet _ _ _ fun q x => ?_
  split
  · split
    · cases Nat.beq _ e with
      | false => exact fun h => h
      | true => exact castK_quiet fun l h => h
    · exact fun h => h
  · cases (Nat.beq _ 0 && Nat.beq _ 0) with
    | false => exact fun h => h
    | true => exact fun h => h
  · exact fun h => h
theorem viewR_alive {hp hp' : List AO} (ha : Alive hp hp') {g : FuncId} {args : AV} (hq : Quiet (viewR E hp g (view hp 3 args))) : viewR E hp' g (view hp' 3 args) = viewR E hp g (view hp 3 args) := by
  have hs : shut (view hp 3 args) = true := by
    unfold viewR at hq
    cases hs : shut (view hp 3 args) with
    | true => rfl
    | false => rw [hs] at hq; exact hq.elim
  rw [view_alive ha 3 args hs]
  rfl
theorem callR_alive {hp hp' : List AO} {nx : Nat} (ha : Alive hp hp') {g : FuncId} {args : AV} (hq : Quiet (callR E hp nx g args)) : callR E hp' nx g args = callR E hp nx g args := by
  unfold callR at hq ⊢
  cases hs : shut args with
  | true =>
    rw [hs] at hq
    simp only [cond_true] at hq ⊢
    split
    · rename_i r hr
      simp only [hr] at hq
      split
      · rfl
      · rename_i nw hl hnw
        simp only [hl] at hq
        cases hfr : E.free g with
        | true => rfl
        | false => rw [hfr] at hq; exact hq.elim
      · rfl
    · rfl
  | false =>
    rw [hs] at hq
    simp only [cond_false] at hq ⊢
    cases hl : live hp (reach hp 40 (refs args) []) with
    | false => rw [hl] at hq; simp only [Bool.not_false, Bool.or_true, cond_true] at hq; exact hq.elim
    | true =>
      have hre := reach_alive ha 40 (refs args) [] (live_mem _ hl)
      rw [hre, live_alive ha _ hl, lentOf_alive ha _ hl]
      cases hfr : E.free g with
      | true => rfl
      | false =>
        rw [hl, hfr] at hq
        simp only [Bool.not_true, Bool.or_false, cond_false] at hq ⊢
        split
        · rename_i a' ls e1 e2
          simp only [e1, e2] at hq
          split
          · rename_i r hr
            simp only [hr] at hq
            cases hn : Nat.beq (lenO r.lent) (lenO ls) with
            | false => rfl
            | true => rw [hn] at hq; exact hq.elim
          · rename_i hr
            simp only [hr] at hq
            exact viewR_alive ha hq
        · rename_i hne
          split at hq
          · rename_i a' ls e1 e2; exact absurd e2 (hne a' ls e1)
          · exact viewR_alive ha hq

theorem txtR_alive {hp hp' : List AO} (ha : Alive hp hp') {v : AV} (hq : Quiet (txtR hp v)) : txtR hp' v = txtR hp v := by
  have one : ∀ (j : Nat) (F : AO → R), (∀ o, liveO o = false → F o = .no) → Quiet (F (getAO hp j)) → F (getAO hp' j) = F (getAO hp j) := fun j F hF hq => by
    cases hj : liveO (getAO hp j) with
    | true => rw [ha j hj]
    | false => rw [hF _ hj] at hq; exact hq.elim
  cases v with
  | ow j k n =>
    exact one j (fun o => match o with
      | .row q t' _ l => castK t' tyU8 l .no fun l => .ok (.v (.string (bytesOf l)))
      | .fz q t' l => castK t' tyU8 l .no fun l => .ok (.v (.string (bytesOf l)))
      | _ => .no) (fun o ho => by cases o <;> first | rfl | cases ho) hq
  | ws j k lo n =>
    exact one j (fun o => match o with
      | .row q t' _ l => bif Nat.beq (tsz t') k then castK t' tyU8 l .no (fun l => .ok (.v (.string (bytesOf ((l.drop lo).take n))))) else .no
      | .fz q t' l => bif Nat.beq (tsz t') k then castK t' tyU8 l .no (fun l => .ok (.v (.string (bytesOf ((l.drop lo).take n))))) else .no
      | _ => .no) (fun o ho => by cases o <;> first | rfl | cases ho) hq
  | v x => 
    cases x <;> try rfl
    rename_i A n m
    cases A <;> rfl
  | _ => rfl
theorem convR_alive {hp hp' : List AO} {nx : Nat} (ha : Alive hp hp') {s i : TI} {v : AV} (hq : Quiet (convR E hp nx s i v)) : convR E hp' nx s i v = convR E hp nx s i v := by
  unfold convR at *
  cases h1 : Nat.beq s.kd 3 && Nat.beq i.kd 5 with
  | true =>
    simp only [h1, cond_true] at hq ⊢
    split
    · rename_i ie hie
      simp only [hie] at hq
      split
      · rename_i hik
        simp only [hik] at hq
        exact txtR_alive ha hq
      · rfl
    · rfl
  | false =>
    simp only [h1, cond_false] at hq ⊢
    cases h2 : Nat.beq s.kd 5 && Nat.beq i.kd 3 with
    | true =>
      exfalso
      simp only [h2, cond_true] at hq
      split at hq
      · split at hq <;> exact hq
      · exact hq
    | false => rfl
theorem clearR_quiet {hp : List AO} {k : Nat} {z : Value} {x : AV} : ¬ Quiet (clearR hp k z x) := by
  unfold clearR
  split
  · split
    · refine bif_quiet ?_
      refine decK_quiet _ _ _ (fun q x => ?_)
      exact fun h => h
    · exact fun h => h
  · exact fun h => h
theorem insertR_quiet {hp : List AO} {t : TypeId} {m k v : AV} : ¬ Quiet (insertR E hp t m k v) := by
  unfold insertR
  split
  · split
    · refine bif_quiet ?_
      refine decK_quiet _ _ _ (fun q x => ?_)
      rename_i vt _ _ _ _ _ _ _
      cases vt with
      | none =>
        show ¬ Quiet (decF v R.no _)
        unfold decF
        split <;> exact fun h => h
      | some τ =>
        show ¬ Quiet (bif flatTy τ then _ else R.no)
        refine bif_quiet ?_
        exact decK_quiet _ _ _ (fun q x h => h)
    · exact fun h => h
  · exact fun h => h
theorem lookupR_alive {hp hp' : List AO} (ha : Alive hp hp') {t : TypeId} {m k : AV} {b : Bool} (hq : Quiet (lookupR E hp t m k b)) : lookupR E hp' t m k b = lookupR E hp t m k b := by
  unfold lookupR at hq ⊢
  cases hi : tyOf E.ty t with
  | none => rfl
  | some i =>
    cases m with
    | mp j =>
      simp only [hi] at hq ⊢
      cases hg : liveO (getAO hp j) with
      | true => rw [ha j hg]
      | false =>
        exfalso
        split at hq
        · rename_i e2 _; rw [e2] at hg; cases hg
        · exact hq
    | _ => rfl
theorem evalOp_alive {ρ : Operand → AV} {hp hp' : List AO} {nx : Nat} (ha : Alive hp hp') (op : Op) (hq : Quiet (evalOp E ρ hp nx op)) : evalOp E ρ hp' nx op = evalOp E ρ hp nx op := by
  cases op with
  | load t x =>
    simp only [evalOp] at hq ⊢
    split
    · rename_i i hi
      simp only [hi] at hq
      exact loadR_alive ha hq
    · rfl
  | store t x y =>
    simp only [evalOp] at hq
    exfalso
    split at hq
    · exact storeR_quiet hq
    · exact hq
  | convert s t x =>
    simp only [evalOp] at hq ⊢
    split
    · rfl
    · rename_i is i his hi hz
      simp only [his, hi] at hq
      exact convR_alive ha hq
    · rfl
  | makeSlice t x y =>
    simp only [evalOp] at hq
    exfalso
    split at hq
    · split at hq
      · split at hq
        · refine bif_quiet ?_ hq
          refine decK_quiet _ _ _ (fun q x => ?_)
          split
          · exact fun h => h
          · refine bif_quiet ?_
            exact fun h => h
        · exact hq
      · exact hq
    · exact hq
  | buildSlice t n parts =>
    simp only [evalOp] at hq
    exfalso
    split at hq
    · split at hq
      · split at hq
        · refine bif_quiet ?_ hq
          split
          · rw [decN_eq]
            split
            · split <;> exact fun h => h
            · exact fun h => h
          · exact fun h => h
        · exact hq
      · exact hq
    · exact hq
  | call c =>
    simp only [evalOp] at hq ⊢
    split
    · rename_i f hf
      simp only [hf] at hq
      split
      · rename_i g cap hg
        simp only [hg] at hq
        split
        · rename_i f0
          cases hf0 : Nat.beq f0 g with
          | false => rfl
          | true =>
            simp only [hf0, cond_true] at hq ⊢
            exact callR_alive ha hq
        · rename_i hne
          split at hq
          · rename_i f0; exact absurd rfl (hne f0)
          · cases hfr : E.free g with
            | true => rfl
            | false =>
              rw [hfr] at hq
              simp only [cond_false] at hq ⊢
              exact callR_alive ha hq
      · rfl
    · rename_i b hb
      rw [hb] at hq
      simp only at hq
      unfold callB at hq ⊢
      split
      · rfl
      · rfl
      · rfl
      · rename_i t ts x y e1 e2 e3
        simp only [e2, e3] at hq
        split
        · rename_i i hi
          simp only [hi] at hq
          split
          · rename_i ie hie
            simp only [hie] at hq
            cases hk : Nat.beq i.kd 3 with
            | false => rfl
            | true =>
              rw [hk] at hq
              exact absurd hq copyR_quiet
          · rfl
        · rfl
      · rename_i t ts x e1 e2 e3
        simp only [e2, e3] at hq
        split
        · rename_i i hi
          simp only [hi] at hq
          split
          · rename_i ie hie
            simp only [hie] at hq
            split
            · rename_i z hz
              simp only [hz] at hq
              cases hk : Nat.beq i.kd 3 with
              | false => rfl
              | true =>
                rw [hk] at hq
                exact absurd hq clearR_quiet
            · rfl
          · rfl
        · rfl
      · rename_i e2 e3
        simp only [e2, e3] at hq
        split
        · rename_i i hi
          simp only [hi] at hq
          split
          · rename_i ie hie
            simp only [hie] at hq
            split
            · rename_i ro z hro hz
              simp only [hro, hz] at hq
              refine absurd hq (bif_quiet ?_)
              rename_i t t' _ y _ _ _ _
              cases Nat.beq _ _ with
              | true => exact appR_quiet
              | false =>
                simp only [cond_false]
                split
                · split
                  · exact appZ_quiet
                  · exact fun h => h
                · exact fun h => h
            · rfl
          · rfl
        · rfl
      · rfl
    · rfl
  | makeFunc f first cap => cases f <;> rfl
  | makeMap t r => cases r <;> rfl
  | insert t m k v => exact absurd hq insertR_quiet
  | lookup t m k b => exact lookupR_alive ha hq
  | _ => rfl

theorem stepR_alive {fr : Fr} {hp hp' : List AO} {nx : Nat} {d : Option Nat} {g : Option Bool} {r : R} {v : AV} (h : stepR N true false fr hp nx d g r (To d v fr hp nx)) : Quiet r ∧ stepR N true false fr hp' nx d g r (To d v fr hp' nx) := by
  cases r with
  | no => exact Stuck.out h
  | any p F => cases g <;> exact Stuck.out h
  | ok w =>
    refine ⟨trivial, force_swap w h ?_⟩
    have h1 := force_ok w h
    cases g with
    | none => exact (putK_F h1).2 fr _ ⟨(putK_F h1).1.1, rfl, rfl⟩
    | some b => exact (putK_F h1).2 fr _ ⟨(putK_F h1).1.1, rfl, rfl⟩
  | ob p w =>
    refine ⟨trivial, force_swap w h ?_⟩
    have h1 := force_ok w h
    cases g with
    | none => exact ⟨h1.1, (putK_F h1.2).2 fr _ ⟨(putK_F h1.2).1.1, rfl, rfl⟩⟩
    | some b => exact ⟨h1.1, (putK_F h1.2).2 fr _ ⟨(putK_F h1.2).1.1, rfl, rfl⟩⟩
  | call r =>
    refine ⟨trivial, force_swap r.res h ?_⟩
    have h1 := force_ok r.res h
    cases g with
    | none => exact ⟨h1.1, (putK_F h1.2).2 fr _ ⟨(putK_F h1.2).1.1, rfl, rfl⟩⟩
    | some b => exact ⟨h1.1, (putK_F h1.2).2 fr _ ⟨(putK_F h1.2).1.1, rfl, rfl⟩⟩
  | new w ob => cases g <;> exact Stuck.out h
  | set w i ob => cases g <;> exact Stuck.out h
  | upd w i ob => cases g <;> exact Stuck.out h
  | act m p w hp2 => cases g <;> exact Stuck.out h

theorem stepO_alive {fr : Fr} {hp hp' : List AO} {nx : Nat} {o : Oper} {g : Option Bool} {v : AV} (ha : Alive hp hp') (h : stepO E true false fr hp nx o g (To o.dst v fr hp nx)) : stepO E true false fr hp' nx o g (To o.dst v fr hp' nx) := by
  unfold stepO at h ⊢
  split
  · rename_i x p q hop
    simp only [hop] at h
    split
    · rename_i b hb
      simp only [hb] at h
      refine obsO_loc (fun _ _ => rfl) h fun hk => ?_
      unfold pickO at hk ⊢
      cases g with
      | none =>
        obtain ⟨y, hy, hs⟩ := pickB_loc hk
        exact hs _ ((putK_F hy).2 fr _ ⟨(putK_F hy).1.1, rfl, rfl⟩)
      | some g =>
        obtain ⟨y, hy, hs⟩ := pickB_loc hk
        exact hs _ ((putK_F hy).2 fr _ ⟨(putK_F hy).1.1, rfl, rfl⟩)
    · rename_i hne
      split at h
      · rename_i b hb; exact absurd hb (hne b)
      · exact h
  · rename_i hne
    split at h
    · rename_i x p q hop; exact absurd hop (hne x p q)
    · refine obsO_loc (fun _ _ => rfl) h fun hk => ?_
      obtain ⟨hq, hs⟩ := stepR_alive (hp' := hp') hk
      rw [evalOp_alive ha o.op hq]
      exact hs
theorem stepS_alive {fr : Fr} {hp hp' : List AO} {nx : Nat} {o : Oper} {g : Bool} {v : AV} (ha : Alive hp hp') (h : stepS E true false fr hp nx o g (To o.dst v fr hp nx)) : stepS E true false fr hp' nx o g (To o.dst v fr hp' nx) := by
  unfold stepS at h ⊢
  cases hm : makesO o with
  | true => rw [hm] at h; exact ⟨h.1, stepO_alive ha h.2⟩
  | false => rw [hm] at h; exact stepO_alive ha h
theorem stepG_alive {all : List Oper} {fr : Fr} {hp hp' : List AO} {nx : Nat} {o : Oper} {v : AV} (ha : Alive hp hp') (h : stepG E true false all o fr hp nx (To o.dst v fr hp nx)) : stepG E true false all o fr hp' nx (To o.dst v fr hp' nx) := by
  unfold stepG at h ⊢
  cases hgd : o.guard with
  | none => simp only [hgd] at h ⊢; exact stepO_alive ha h
  | some p =>
    obtain ⟨j, want⟩ := p
    simp only [hgd] at h ⊢
    cases hd : dstAt all j with
    | none => simp [hd] at h
    | some d =>
      simp only [hd] at h ⊢
      unfold guardOf at h ⊢
      split
      · rename_i b e; simp only [e] at h; exact stepS_alive ha h
      · rename_i c b e; simp only [e] at h; exact stepS_alive ha h
      · rename_i h1 h2
        split at h
        · rename_i b e; exact absurd e (h1 b)
        · rename_i c b e; exact absurd e (h2 c b)
        · exact h
theorem unow_nil {hp : List AO} : ∀ (l : AV), owsOf l = [] → unow hp l = l
  | .cons h m, e => by
    have hm : owsOf m = [] := by cases h <;> first | exact e | (simp [owsOf] at e)
    have hh : unow1 hp h = h := by cases h <;> first | rfl | (simp [owsOf] at e)
    simp only [unow, hh, unow_nil m hm]
  | .u, _ => rfl
  | .v _, _ => rfl
  | .nil, _ => rfl
  | .em, _ => rfl
  | .agg _, _ => rfl
  | .tup _, _ => rfl
  | .fn _ _, _ => rfl
  | .gd _ _, _ => rfl
  | .ptr _ _, _ => rfl
  | .sc _ _ _ _ _, _ => rfl
  | .rl _ _ _, _ => rfl
  | .rc _ _ _, _ => rfl
  | .rp _ _ _, _ => rfl
  | .ow _ _ _, _ => rfl
  | .ws _ _ _ _, _ => rfl
  | .op _ _ _ _, _ => rfl
  | .iw _ _ _ _ _ _, _ => rfl
  | .ip _ _ _ _ _ _ _, _ => rfl
  | .mp _, _ => rfl
theorem new_hp {ρ : Operand → AV} {hp hp' : List AO} {sl : Nat} {o : Oper} (hn : isNew o = true) {v : AV} {ob : AO} (he : evalOp E ρ hp sl o.op = .new v ob) : evalOp E ρ hp' sl o.op = .new v ob := by
  unfold isNew at hn
  simp only [Bool.and_eq_true] at hn
  have h2 := hn.2
  split at h2
  · rename_i t hop; rw [hop] at he ⊢; exact he
  · rename_i t x hop; rw [hop] at he ⊢; exact he
  · rename_i t n parts hop
    rw [hop] at he ⊢
    simp only [evalOp] at he ⊢
    split
    · rename_i i hi
      simp only [hi] at he
      split
      · rename_i ie hie
        simp only [hie] at he
        split
        · rename_i ro z hro hz
          simp only [hro, hz] at he
          cases hk : (Nat.beq i.kd 3 && Nat.blt 0 ie.sz && Nat.ble n 10000 && Nat.ble ie.sz 1000) with
          | false => rw [hk] at he; cases he
          | true =>
            rw [hk] at he
            simp only [cond_true] at he ⊢
            split
            · rename_i l hl
              simp only [hl] at he
              rw [decN_eq] at he ⊢
              have hnil : owsOf l = [] := by
                split at he
                · split at he
                  · assumption
                  · cases he
                · cases he
              rw [unow_nil l hnil] at he ⊢
              split
              · rename_i pr hpr
                rw [hpr] at he
                simp only [hnil] at he ⊢
                exact he
              · rename_i hpr
                rw [hpr] at he
                cases he
            · rename_i hl
              simp only [hl] at he
              cases he
        · rename_i hne
          split at he
          · rename_i ro z hro hz; exact absurd hz (hne ro z hro)
          · cases he
      · rename_i hie
        simp only [hie] at he
        cases he
    · rename_i hi
      simp only [hi] at he
      cases he
  · cases h2
/-- An operation that asks for nothing of the function's own: its step, whatever is there. -/
theorem callB_free {hp hp' : List AO} {nx nx' : Nat} {b : Builtin} (hb : b ≠ .copy) (hb' : b ≠ .append) (hb2 : b ≠ .clear) (ts : List TypeId) (l : AV) : callB E hp' nx' b ts l = callB E hp nx b ts l := by
  unfold callB
  split <;> first | rfl | exact absurd rfl hb | exact absurd rfl hb' | exact absurd rfl hb2
theorem callR_free {hp hp' : List AO} {nx nx' : Nat} {g : FuncId} {args : AV} (hf : E.free g = true) : callR E hp' nx' g args = callR E hp nx g args := by
  unfold callR
  simp only [hf, cond_true, Bool.true_or]
theorem evalOp_free {ρ : Operand → AV} {hp hp' : List AO} {nx nx' : Nat} {o : Oper} (hf : hsen E o = false) : evalOp E ρ hp' nx' o.op = evalOp E ρ hp nx o.op := by
  revert hf
  unfold hsen
  generalize o.op = op
  cases op with
  | makeFunc f first cap => intro _; cases f <;> rfl
  | convert s t x =>
    intro hf
    simp only [evalOp]
    cases hs : tyOf E.ty s with
    | none => rfl
    | some i =>
      cases ht : tyOf E.ty t with
      | none => rfl
      | some j =>
        have hf : (match tyOf E.ty s, tyOf E.ty t with
          | some i, some j => (bif Nat.beq i.kd 0 then false else true) || (bif Nat.beq j.kd 0 then false else true)
          | _, _ => true) = false := hf
        rw [hs, ht] at hf
        have hk : i.kd = 0 ∧ j.kd = 0 := by
          cases h1 : Nat.beq i.kd 0 with
          | false => simp [h1] at hf
          | true =>
            cases h2 : Nat.beq j.kd 0 with
            | false => simp [h1, h2] at hf
            | true => exact ⟨Nat.eq_of_beq_eq_true h1, Nat.eq_of_beq_eq_true h2⟩
        have hc : ∀ hp nx v, convR E hp nx i j v = .no := fun hp nx v => by unfold convR; rw [hk.1, hk.2]; rfl
        generalize ρ x = v
        cases v with
        | v y => cases y <;> first | rfl | exact (hc _ _ _).trans (hc _ _ _).symm
        | _ => exact (hc _ _ _).trans (hc _ _ _).symm
  | call c =>
    intro hf
    simp only at hf
    split at hf
    · rename_i f0 hc
      have hfr : E.free f0 = true := by simpa using hf
      simp only [evalOp, hc]
      split
      · rename_i g cap hg
        cases hf0 : Nat.beq f0 g with
        | false => rfl
        | true =>
          have := Nat.eq_of_beq_eq_true hf0
          subst this
          simp only [cond_true]
          exact callR_free hfr
      · rfl
    · cases hf
    · rename_i hc; simp only [evalOp, hc]; exact callB_free (by simp) (by simp) (by simp) _ _
    · rename_i hc; simp only [evalOp, hc]; exact callB_free (by simp) (by simp) (by simp) _ _
    · rename_i hc; simp only [evalOp, hc]; exact callB_free (by simp) (by simp) (by simp) _ _
    · cases hf
  | _ => intro hf; first | rfl | (cases hf; done)
theorem stepR_free {fr : Fr} {hp hp' : List AO} {nx nx' : Nat} {d : Option Nat} {g : Option Bool} {r : R} {v : AV} (h : stepR N true false fr hp nx d g r (To d v fr hp nx)) : stepR N true false fr hp' nx' d g r (To d v fr hp' nx') := by
  cases r with
  | no => exact Stuck.out h
  | any p F => cases g <;> exact Stuck.out h
  | ok w =>
    refine force_swap w h ?_
    have h1 := force_ok w h
    cases g with
    | none => exact (putK_F h1).2 fr _ ⟨(putK_F h1).1.1, rfl, rfl⟩
    | some b => exact (putK_F h1).2 fr _ ⟨(putK_F h1).1.1, rfl, rfl⟩
  | ob p w =>
    refine force_swap w h ?_
    have h1 := force_ok w h
    cases g with
    | none => exact ⟨h1.1, (putK_F h1.2).2 fr _ ⟨(putK_F h1.2).1.1, rfl, rfl⟩⟩
    | some b => exact ⟨h1.1, (putK_F h1.2).2 fr _ ⟨(putK_F h1.2).1.1, rfl, rfl⟩⟩
  | call r =>
    refine force_swap r.res h ?_
    have h1 := force_ok r.res h
    cases g with
    | none => exact ⟨h1.1, (putK_F h1.2).2 fr _ ⟨(putK_F h1.2).1.1, rfl, rfl⟩⟩
    | some b => exact ⟨h1.1, (putK_F h1.2).2 fr _ ⟨(putK_F h1.2).1.1, rfl, rfl⟩⟩
  | new w ob => cases g <;> exact Stuck.out h
  | set w i ob => cases g <;> exact Stuck.out h
  | upd w i ob => cases g <;> exact Stuck.out h
  | act m p w hp2 => cases g <;> exact Stuck.out h
theorem stepO_free {fr : Fr} {hp hp' : List AO} {nx nx' : Nat} {o : Oper} {g : Option Bool} {v : AV} (hf : hsen E o = false) (h : stepO E true false fr hp nx o g (To o.dst v fr hp nx)) : stepO E true false fr hp' nx' o g (To o.dst v fr hp' nx') := by
  unfold stepO at h ⊢
  split
  · rename_i x p q hop
    simp only [hop] at h
    split
    · rename_i b hb
      simp only [hb] at h
      refine obsO_loc (fun _ _ => rfl) h fun hk => ?_
      unfold pickO at hk ⊢
      cases g with
      | none =>
        obtain ⟨y, hy, hs⟩ := pickB_loc hk
        exact hs _ ((putK_F hy).2 fr _ ⟨(putK_F hy).1.1, rfl, rfl⟩)
      | some g =>
        obtain ⟨y, hy, hs⟩ := pickB_loc hk
        exact hs _ ((putK_F hy).2 fr _ ⟨(putK_F hy).1.1, rfl, rfl⟩)
    · rename_i hne
      split at h
      · rename_i b hb; exact absurd hb (hne b)
      · exact h
  · rename_i hne
    split at h
    · rename_i x p q hop; exact absurd hop (hne x p q)
    · refine obsO_loc (fun _ _ => rfl) h fun hk => ?_
      rw [evalOp_free (hp := hp) (nx := nx) hf]
      exact stepR_free hk
theorem stepS_free {fr : Fr} {hp hp' : List AO} {nx nx' : Nat} {o : Oper} {g : Bool} {v : AV} (hf : hsen E o = false) (h : stepS E true false fr hp nx o g (To o.dst v fr hp nx)) : stepS E true false fr hp' nx' o g (To o.dst v fr hp' nx') := by
  unfold stepS at h ⊢
  cases hm : makesO o with
  | true => rw [hm] at h; exact ⟨h.1, stepO_free hf h.2⟩
  | false => rw [hm] at h; exact stepO_free hf h
theorem stepG_free {all : List Oper} {fr : Fr} {hp hp' : List AO} {nx nx' : Nat} {o : Oper} {v : AV} (hf : hsen E o = false) (h : stepG E true false all o fr hp nx (To o.dst v fr hp nx)) : stepG E true false all o fr hp' nx' (To o.dst v fr hp' nx') := by
  unfold stepG at h ⊢
  cases hgd : o.guard with
  | none => simp only [hgd] at h ⊢; exact stepO_free hf h
  | some p =>
    obtain ⟨j, want⟩ := p
    simp only [hgd] at h ⊢
    cases hd : dstAt all j with
    | none => simp [hd] at h
    | some d =>
      simp only [hd] at h ⊢
      unfold guardOf at h ⊢
      split
      · rename_i b e; simp only [e] at h; exact stepS_free hf h
      · rename_i c b e; simp only [e] at h; exact stepS_free hf h
      · rename_i h1 h2
        split at h
        · rename_i b e; exact absurd e (h1 b)
        · rename_i c b e; exact absurd e (h2 c b)
        · exact h
theorem new_hsen {o : Oper} (h : isNew o = true) : hsen E o = true := by
  unfold isNew at h
  simp only [Bool.and_eq_true] at h
  have h2 := h.2
  unfold hsen
  split at h2
  · rename_i t hop; rw [hop]
  · rename_i t x hop; rw [hop]
  · rename_i t n parts hop; rw [hop]
  · cases h2
end

end Go.Proofs.Ytbgcgokikekmoaa.Eng

/- ENGINE 2, 9: any order of a region comes to what the lexical one comes to. -/
namespace Go.Proofs.Ytbgcgokikekmoaa.Eng
set_option linter.unusedVariables false
set_option linter.unusedSimpArgs false
open Go Go.RowKit

/-! ### Who comes first -/
theorem befGo_spec : ∀ (l : List Oper) (acc : List (List Nat)), (befGo acc l).length = acc.length + l.length ∧ (∀ i, i < acc.length → (befGo acc l).getD i [] = acc.getD i []) ∧
    ∀ j o, l[j]? = some o → (befGo acc l).getD (acc.length + j) [] = ((o.after.toList.filter fun e => Region.binds .any e).flatMap fun e => e.on :: ((befGo acc l).take (acc.length + j)).getD e.on [])
  | [], acc => ⟨rfl, fun _ _ => rfl, fun j o h => by cases h⟩
  | o :: r, acc => by
    obtain ⟨x, hx⟩ : ∃ x, x = ((o.after.toList.filter fun e => Region.binds .any e).flatMap fun e => e.on :: acc.getD e.on []) := ⟨_, rfl⟩
    have ih := befGo_spec r (acc ++ [x])
    obtain ⟨h1, h2, h3⟩ := ih
    simp only [List.length_append, List.length_cons, List.length_nil, Nat.zero_add] at h1 h2 h3
    have hgo : befGo acc (o :: r) = befGo (acc ++ [x]) r := by rw [hx]; rfl
    rw [hgo]
    refine ⟨by rw [h1, List.length_cons]; omega, fun i hi => ?_, fun j p hj => ?_⟩
    · rw [h2 i (by omega)]
      simp [List.getD, List.getElem?_append_left hi]
    · have htake : (befGo (acc ++ [x]) r).take acc.length = acc := by
        refine List.ext_getElem? fun k => ?_
        rw [List.getElem?_take]
        split
        · rename_i hk
          have := h2 k (by omega)
          have hl : k < (befGo (acc ++ [x]) r).length := by omega
          simp only [List.getD, List.getElem?_append_left hk] at this
          rw [List.getElem?_eq_getElem hl, List.getElem?_eq_getElem hk] at this ⊢
          simpa using this
        · rename_i hk
          exact (List.getElem?_eq_none (by omega)).symm
      cases j with
      | zero =>
        have hop : o = p := by simpa using hj
        subst hop
        have := h2 acc.length (by omega)
        rw [Nat.add_zero, this, htake, ← hx]
        simp [List.getD]
      | succ j =>
        have := h3 j p (by simpa using hj)
        rw [show acc.length + (j + 1) = acc.length + 1 + j by omega]
        exact this

section
variable {ops : List Oper}

/-- An operation is there. -/
def On (listed : Array Bool) (i : Nat) : Prop := listed.getD i false = true
/-- Whoever is there, what it waits for is there. -/
def Closed (ops : List Oper) (listed : Array Bool) : Prop := ∀ i o, ops[i]? = some o → On listed i → ∀ e ∈ o.after, Region.binds .any e = true → On listed e.on

theorem bef_on {listed : Array Bool} (hc : Closed ops listed) : ∀ (n i : Nat), i ≤ n → ∀ o, ops[i]? = some o → (∀ e ∈ o.after, Region.binds .any e = true → On listed e.on) → ∀ j ∈ (bef ops).getD i [], On listed j := by
  intro n
  induction n with
  | zero =>
    intro i hi o ho hall j hj
    obtain rfl : i = 0 := by omega
    have := (befGo_spec ops []).2.2 0 o ho
    simp only [List.length_nil, Nat.zero_add, List.take_zero] at this
    unfold bef at hj
    rw [this, List.mem_flatMap] at hj
    obtain ⟨e, he, hj⟩ := hj
    rw [List.mem_filter] at he
    rcases List.mem_cons.1 hj with rfl | hj
    · exact hall e (by simpa using he.1) he.2
    · simp at hj
  | succ n ih =>
    intro i hi o ho hall j hj
    have := (befGo_spec ops []).2.2 i o ho
    simp only [List.length_nil, Nat.zero_add] at this
    unfold bef at hj
    rw [this, List.mem_flatMap] at hj
    obtain ⟨e, he, hj⟩ := hj
    rw [List.mem_filter] at he
    have hon := hall e (by simpa using he.1) he.2
    rcases List.mem_cons.1 hj with rfl | hj
    · exact hon
    · have hlt : e.on < i := by
        rcases Nat.lt_or_ge e.on i with h | h
        · exact h
        · simp [List.getD, List.getElem?_take, show ¬ e.on < i by omega] at hj
      have hj' : j ∈ (bef ops).getD e.on [] := by
        simpa [List.getD, List.getElem?_take, hlt, bef] using hj
      have hi' : i < ops.length := (List.getElem?_eq_some_iff.1 ho).1
      exact ih e.on (by omega) ops[e.on] (List.getElem?_eq_getElem (by omega)) (hc e.on _ (List.getElem?_eq_getElem (by omega)) hon) j hj'

/-- What 'drawOk' says. -/
theorem drawOk_edge (h : drawOk ops = true) {i : Nat} {o : Oper} (ho : ops[i]? = some o) {e : Edge} (he : e ∈ o.after) (hb : Region.binds .any e = true) : e.on < i := by
  unfold drawOk at h
  rw [List.all_eq_true] at h
  have := h (o, i) (by rw [List.mem_zipIdx_iff_getElem?]; exact ho)
  simp only [Bool.and_eq_true] at this
  have h1 := this.1
  rw [List.all_eq_true] at h1
  have := h1 e (by simpa using he)
  simpa [hb, Nat.blt_eq] using this
theorem drawOk_pair (h : drawOk ops = true) {i k : Nat} {oi ok : Oper} (hi : ops[i]? = some oi) (hk : ops[k]? = some ok) : pairOk (bef ops) ops i k oi ok = true := by
  unfold drawOk at h
  rw [List.all_eq_true] at h
  have := h (oi, i) (by rw [List.mem_zipIdx_iff_getElem?]; exact hi)
  simp only [Bool.and_eq_true] at this
  have h1 := this.2
  rw [List.all_eq_true] at h1
  exact h1 (ok, k) (by rw [List.mem_zipIdx_iff_getElem?]; exact hk)
theorem dst_ne (h : drawOk ops = true) {i k : Nat} {oi ok : Oper} (hi : ops[i]? = some oi) (hk : ops[k]? = some ok) {t : Nat} (hti : oi.dst = some t) (htk : ok.dst = some t) : i = k := by
  have := drawOk_pair h hi hk
  unfold pairOk at this
  simp only [htk, Bool.and_eq_true, Bool.or_eq_true] at this
  rcases this.1 with h | h
  · exact Nat.eq_of_beq_eq_true h
  · simp [hti] at h
theorem dst_read (h : drawOk ops = true) {i k : Nat} {oi ok : Oper} (hi : ops[i]? = some oi) (hk : ops[k]? = some ok) {t : Nat} (htk : ok.dst = some t) (hr : t ∈ lookAt ops oi) :
    (k < i ∧ k ∈ (bef ops).getD i []) ∨ (i < k ∧ i ∈ (bef ops).getD k []) := by
  have := drawOk_pair h hi hk
  unfold pairOk at this
  simp only [htk, Bool.and_eq_true, Bool.or_eq_true] at this
  rcases this.2 with (h | h) | h
  · simp [hr] at h
  · exact .inl ⟨by simpa [Nat.blt_eq] using h.1, by simpa using h.2⟩
  · exact .inr ⟨by simpa [Nat.blt_eq] using h.1, by simpa using h.2⟩

theorem barrier_spec {tab : List (List Nat)} {hs : List Bool} {i : Nat} (h : barrier tab hs i = true) : hs.getD i false = true ∧ (∀ j, j < i → hs.getD j false = true → j ∈ tab.getD i []) ∧ ∀ j, i < j → j < tab.length → hs.getD j false = true → i ∈ tab.getD j [] := by
  unfold barrier at h
  simp only [Bool.and_eq_true, List.all_eq_true] at h
  refine ⟨h.1.1, fun j hj hh => ?_, fun j hij hj hh => ?_⟩
  · have := h.1.2 j (by simpa using hj)
    simp only [hh, Bool.not_true, Bool.false_or] at this
    simpa using this
  · have := h.2 (tab[j], j) (by rw [List.mem_zipIdx_iff_getElem?]; simp [hj])
    simp only [hh, Bool.not_true, Bool.or_false, Bool.or_eq_true] at this
    rcases this with h | h
    · have := Nat.le_of_ble_eq_true h; omega
    · simpa [List.getD, hj] using h

/-! ### The lexical run, operation by operation -/
def flushL : List (Nat × AO) → List AO → List AO
  | [], hp => hp
  | (i, o) :: r, hp => flushL r (hp.set i o)
theorem flushK_ok : ∀ (pd : List (Nat × AO)) {hp : List AO} {K : List AO → Prop}, flushK pd hp K → K (flushL pd hp)
  | [], hp, K, h => h
  | (i, o) :: r, hp, K, h => flushK_ok r (setK_ok hp h).2

theorem slotO_loc {E : Env} {all : List Oper} {fr : Fr} {hp : List AO} {sl : Nat} {o : Oper} {K : Fr → AO → Prop} (h : slotO E fr hp sl o K) :
    ∃ v ob, K (putF o.dst v fr) ob ∧ getAO hp sl = .void ∧ ∀ fr', Agree all o fr fr' → obs fr' true o.op.operands.toList True ∧ evalOp E (opd fr') hp sl o.op = .new v ob ∧ putK E.N fr' o.dst v (fun fr => fr = putF o.dst v fr') := by
  unfold slotO at h
  split at h
  · rename_i v ob hv he
    have h1 := force_ok v (obs_K _ h)
    have h2 := forceO_ok ob h1
    refine ⟨v, ob, (putK_F h2).1, hv, fun fr' ha => ?_⟩
    have hr : ∀ z ∈ o.op.operands.toList, raw fr' z = raw fr z := fun z hz => raw_agree ha z hz
    refine ⟨obs_loc _ hr h fun _ => trivial, ?_, (putK_F h2).2 fr' _ rfl⟩
    rw [← he]
    exact evalOp_congr o.op fun z hz => by unfold opd; rw [hr z hz]
  · exact Stuck.out h

structure Seq (E : Env) (all : List Oper) (tab : List (List Nat)) (hs : List Bool) (i : Nat) (l : List Oper) (V : Nat → AV) (F : Nat → Fr) (H : Nat → List AO) (M S : Nat → Nat) (D : Nat → List (Nat × AO)) (O : Nat → AO) : Prop where
  f : ∀ j o, l[j]? = some o → F (i + j + 1) = putF o.dst (V (i + j)) (F (i + j))
  pu : ∀ j o, l[j]? = some o → barrier tab hs (i + j) = false → isNew o = false → H (i + j + 1) = H (i + j) ∧ M (i + j + 1) = M (i + j) ∧ S (i + j + 1) = S (i + j) ∧ D (i + j + 1) = D (i + j) ∧
    ∀ fr', Agree all o (F (i + j)) fr' → stepG E true false all o fr' (H (i + j)) (M (i + j)) (To o.dst (V (i + j)) fr' (H (i + j)) (M (i + j)))
  nw : ∀ j o, l[j]? = some o → barrier tab hs (i + j) = false → isNew o = true → H (i + j + 1) = H (i + j) ∧ M (i + j + 1) = M (i + j) ∧ S (i + j + 1) = S (i + j) + 1 ∧ D (i + j + 1) = D (i + j) ++ [(S (i + j), O (i + j))] ∧ getAO (H (i + j)) (S (i + j)) = .void ∧
    ∀ fr', Agree all o (F (i + j)) fr' → obs fr' true o.op.operands.toList True ∧ evalOp E (opd fr') (H (i + j)) (S (i + j)) o.op = .new (V (i + j)) (O (i + j)) ∧ putK E.N fr' o.dst (V (i + j)) (fun fr => fr = putF o.dst (V (i + j)) fr')
  br : ∀ j o, l[j]? = some o → barrier tab hs (i + j) = true → S (i + j + 1) = S (i + j) ∧ D (i + j + 1) = [] ∧
    ∀ fr', Agree all o (F (i + j)) fr' → stepG E false false all o fr' (flushL (D (i + j)) (H (i + j))) (M (i + j)) (To o.dst (V (i + j)) fr' (H (i + j + 1)) (M (i + j + 1)))

def upTo {α : Type} (G : Nat → α) (i : Nat) (x : α) : Nat → α := fun n => if n = i then x else G n
theorem upTo_at {α : Type} (G : Nat → α) (i : Nat) (x : α) : upTo G i x i = x := if_pos rfl
theorem upTo_in {α : Type} (G : Nat → α) (i : Nat) (x : α) (j : Nat) : upTo G i x (i + 1 + j) = G (i + 1 + j) := if_neg (by omega)
theorem upTo_in1 {α : Type} (G : Nat → α) (i : Nat) (x : α) (j : Nat) : upTo G i x (i + 1 + j + 1) = G (i + 1 + j + 1) := if_neg (by omega)
theorem upTo_1 {α : Type} (G : Nat → α) (i : Nat) (x : α) : upTo G i x (i + 1) = G (i + 1) := if_neg (by omega)

theorem runDraw_seq {E : Env} {all : List Oper} {tab : List (List Nat)} {hs : List Bool} : ∀ (l : List Oper) (i sl : Nat) (pd : List (Nat × AO)) {fr : Fr} {hp : List AO} {nx : Nat} {Q : Post}, runDraw E all tab hs i l sl pd fr hp nx Q →
    ∃ V F H M S D O, F i = fr ∧ H i = hp ∧ M i = nx ∧ S i = sl ∧ D i = pd ∧ Q (F (i + l.length)) (flushL (D (i + l.length)) (H (i + l.length))) (M (i + l.length)) ∧ Seq E all tab hs i l V F H M S D O
  | [], i, sl, pd, fr, hp, nx, Q, hk => ⟨fun _ => .u, fun _ => fr, fun _ => hp, fun _ => nx, fun _ => sl, fun _ => pd, fun _ => .dead, rfl, rfl, rfl, rfl, rfl, flushK_ok pd hk,
      ⟨fun j o h => (by simp at h), fun j o h => (by simp at h), fun j o h => (by simp at h), fun j o h => (by simp at h)⟩⟩
  | o :: r, i, sl, pd, fr, hp, nx, Q, hk => by
    -- what comes of the rest
    have build : ∀ (v : AV) (hp' : List AO) (nx' sl' : Nat) (pd' : List (Nat × AO)) (ob : AO), runDraw E all tab hs (i + 1) r sl' pd' (putF o.dst v fr) hp' nx' Q →
        (barrier tab hs i = false → isNew o = false → hp' = hp ∧ nx' = nx ∧ sl' = sl ∧ pd' = pd ∧ ∀ fr', Agree all o fr fr' → stepG E true false all o fr' hp nx (To o.dst v fr' hp nx)) →
        (barrier tab hs i = false → isNew o = true → hp' = hp ∧ nx' = nx ∧ sl' = sl + 1 ∧ pd' = pd ++ [(sl, ob)] ∧ getAO hp sl = .void ∧ ∀ fr', Agree all o fr fr' → obs fr' true o.op.operands.toList True ∧ evalOp E (opd fr') hp sl o.op = .new v ob ∧ putK E.N fr' o.dst v (fun fr => fr = putF o.dst v fr')) →
        (barrier tab hs i = true → sl' = sl ∧ pd' = [] ∧ ∀ fr', Agree all o fr fr' → stepG E false false all o fr' (flushL pd hp) nx (To o.dst v fr' hp' nx')) →
        ∃ V F H M S D O, F i = fr ∧ H i = hp ∧ M i = nx ∧ S i = sl ∧ D i = pd ∧ Q (F (i + (o :: r).length)) (flushL (D (i + (o :: r).length)) (H (i + (o :: r).length))) (M (i + (o :: r).length)) ∧ Seq E all tab hs i (o :: r) V F H M S D O := by
      intro v hp' nx' sl' pd' ob hK h1 h2 h3
      obtain ⟨V, F, H, M, S, D, O, hF, hH, hM, hS, hD, hQ, ⟨sf, sp, sn, sb⟩⟩ := runDraw_seq r (i + 1) sl' pd' hK
      refine ⟨upTo V i v, upTo F i fr, upTo H i hp, upTo M i nx, upTo S i sl, upTo D i pd, upTo O i ob, upTo_at _ _ _, upTo_at _ _ _, upTo_at _ _ _, upTo_at _ _ _, upTo_at _ _ _, ?_, ⟨?_, ?_, ?_, ?_⟩⟩
      · simp only [List.length_cons, show i + (r.length + 1) = i + 1 + r.length by omega, upTo_in]
        exact hQ
      · intro j p hj
        cases j with
        | zero =>
          have : o = p := by simpa using hj
          subst this
          simp [upTo_at, upTo_1, hF]
        | succ j =>
          have := sf j p (by simpa using hj)
          simp only [show i + (j + 1) + 1 = i + 1 + (j + 1) by omega, show i + (j + 1) = i + 1 + j by omega, upTo_in, upTo_in1]
          exact this
      · intro j p hj hb hn
        cases j with
        | zero =>
          have : o = p := by simpa using hj
          subst this
          obtain ⟨e1, e2, e3, e4, e5⟩ := h1 hb hn
          subst e1 e2 e3 e4
          simp only [Nat.add_zero, upTo_at, upTo_1, hH, hM, hS, hD]
          exact ⟨trivial, trivial, trivial, trivial, e5⟩
        | succ j =>
          have := sp j p (by simpa using hj) (by rw [show i + 1 + j = i + (j + 1) by omega]; exact hb) hn
          simp only [show i + (j + 1) + 1 = i + 1 + (j + 1) by omega, show i + (j + 1) = i + 1 + j by omega, upTo_in, upTo_in1]
          exact this
      · intro j p hj hb hn
        cases j with
        | zero =>
          have : o = p := by simpa using hj
          subst this
          obtain ⟨e1, e2, e3, e4, e5, e6⟩ := h2 hb hn
          subst e1 e2 e3 e4
          simp only [Nat.add_zero, upTo_at, upTo_1, hH, hM, hS, hD]
          exact ⟨trivial, trivial, trivial, trivial, e5, e6⟩
        | succ j =>
          have := sn j p (by simpa using hj) (by rw [show i + 1 + j = i + (j + 1) by omega]; exact hb) hn
          simp only [show i + (j + 1) + 1 = i + 1 + (j + 1) by omega, show i + (j + 1) = i + 1 + j by omega, upTo_in, upTo_in1]
          exact this
      · intro j p hj hb
        cases j with
        | zero =>
          have : o = p := by simpa using hj
          subst this
          obtain ⟨e3, e4, e5⟩ := h3 hb
          subst e3 e4
          simp only [Nat.add_zero, upTo_at, upTo_1, hH, hM, hS, hD]
          exact ⟨trivial, trivial, e5⟩
        | succ j =>
          have := sb j p (by simpa using hj) (by rw [show i + 1 + j = i + (j + 1) by omega]; exact hb)
          simp only [show i + (j + 1) + 1 = i + 1 + (j + 1) by omega, show i + (j + 1) = i + 1 + j by omega, upTo_in, upTo_in1]
          exact this
    unfold runDraw at hk
    cases hb : barrier tab hs i with
    | true =>
      rw [hb] at hk
      simp only [cond_true] at hk
      obtain ⟨v, hp', nx', hK, _, hs⟩ := stepG_loc (all := all) (flushK_ok pd hk)
      exact build v hp' nx' sl [] .dead hK (fun h => by rw [hb] at h; cases h) (fun h => by rw [hb] at h; cases h) (fun _ => ⟨rfl, rfl, hs⟩)
    | false =>
      rw [hb] at hk
      simp only [cond_false] at hk
      cases hn : isNew o with
      | true =>
        rw [hn] at hk
        simp only [cond_true] at hk
        obtain ⟨v, ob, hK, hv, hs⟩ := slotO_loc (all := all) hk
        exact build v hp nx (sl + 1) _ ob hK (fun _ h => by rw [hn] at h; cases h) (fun _ _ => ⟨rfl, rfl, rfl, rfl, hv, hs⟩) (fun h => by rw [hb] at h; cases h)
      | false =>
        rw [hn] at hk
        simp only [cond_false] at hk
        obtain ⟨v, hp', nx', hK, hd, hs⟩ := stepG_loc (all := all) hk
        obtain ⟨rfl, rfl⟩ := hd rfl
        exact build v hp' nx' sl pd .dead hK (fun _ _ => ⟨rfl, rfl, rfl, rfl, hs⟩) (fun _ h => by rw [hn] at h; cases h) (fun h => by rw [hb] at h; cases h)
end

end Go.Proofs.Ytbgcgokikekmoaa.Eng

/- ENGINE 2, 10B: a run of operations says more of more. -/
namespace Go.Proofs.Ytbgcgokikekmoaa.Eng
set_option linter.unusedVariables false
set_option linter.unusedSimpArgs false
open Go Go.RowKit

section
variable {E : Env} {N : Nat} {K K' : Post}
theorem putK_mono {fr : Fr} {d : Option Nat} {v : AV} {K K' : Fr → Prop} (h : putK N fr d v K) (hm : ∀ fr, K fr → K' fr) : putK N fr d v K' :=
  (putK_F h).2 fr K' (hm _ (putK_F h).1)
theorem stepR_mono {dr sq : Bool} {fr : Fr} {hp : List AO} {nx : Nat} {d : Option Nat} {g : Option Bool} {r : R} (hm : ∀ fr hp nx, K fr hp nx → K' fr hp nx) (hk : stepR N dr sq fr hp nx d g r K) : stepR N dr sq fr hp nx d g r K' := by
  cases r with
  | no => exact hk
  | ok v =>
    refine force_swap v hk ?_
    have h1 := force_ok v hk
    cases g <;> exact putK_mono h1 fun fr h => hm _ _ _ h
  | ob p v =>
    refine force_swap v hk ?_
    have h1 := force_ok v hk
    cases g <;> exact ⟨h1.1, putK_mono h1.2 fun fr h => hm _ _ _ h⟩
  | call r =>
    refine force_swap r.res hk ?_
    have h1 := force_ok r.res hk
    cases g <;> exact ⟨h1.1, putK_mono h1.2 fun fr h => hm _ _ _ h⟩
  | any p F =>
    cases g with
    | some b => cases dr <;> cases sq <;> exact hk
    | none =>
      cases dr with
      | true => cases sq <;> exact hk
      | false =>
        cases sq with
        | false => exact hk
        | true =>
          have hk2 : p ∧ every fun hd => forceH (F hd) fun hp' => putK N fr d .u fun fr => K fr hp' (lenO hp') := hk
          show p ∧ every fun hd => forceH (F hd) fun hp' => putK N fr d .u fun fr => K' fr hp' (lenO hp')
          exact ⟨hk2.1, every_i fun hd => forceH_swap (F hd) (every_out hk2.2 hd) (putK_mono (forceH_ok (F hd) (every_out hk2.2 hd)) fun fr h => hm _ _ _ h)⟩
  | act m p v hp' =>
    cases g with
    | some b =>
      cases dr with
      | true => cases sq <;> exact hk
      | false =>
        cases sq with
        | false => exact hk
        | true =>
          have hk2 : force v (fun v => forceH hp' fun hp' => fork b (p ∧ putK N fr d (.gd b v) fun fr => K fr hp' (lenO hp')) (putK N fr d (.gd b v) fun fr => K fr hp nx)) := hk
          have h1 := forceH_ok hp' (force_ok v hk2)
          show force v (fun v => forceH hp' fun hp' => fork b (p ∧ putK N fr d (.gd b v) fun fr => K' fr hp' (lenO hp')) (putK N fr d (.gd b v) fun fr => K' fr hp nx))
          exact force_swap v hk2 (forceH_swap hp' (force_ok v hk2) (fork_i (fun hb => ⟨((fork_out h1).1 hb).1, putK_mono ((fork_out h1).1 hb).2 fun fr h => hm _ _ _ h⟩) (fun hb => putK_mono ((fork_out h1).2 hb) fun fr h => hm _ _ _ h)))
    | none =>
      cases dr with
      | true => exact hk
      | false =>
        have hk2 : force v (fun v => forceH hp' fun hp' => p ∧ putK N fr d v fun fr => K fr hp' (lenO hp')) := hk
        have h1 := forceH_ok hp' (force_ok v hk2)
        show force v (fun v => forceH hp' fun hp' => p ∧ putK N fr d v fun fr => K' fr hp' (lenO hp'))
        exact force_swap v hk2 (forceH_swap hp' (force_ok v hk2) ⟨h1.1, putK_mono h1.2 fun fr h => hm _ _ _ h⟩)
  | new v ob =>
    cases g with
    | some b => cases dr <;> exact hk
    | none =>
      cases dr with
      | true => exact hk
      | false =>
        have hk2 : forceO ob (fun o' => snocK hp o' fun hp => putK N fr d v fun fr => K fr hp (nx + 1)) := hk
        have h1 := snocK_ok hp (forceO_ok ob hk2)
        show forceO ob (fun o' => snocK hp o' fun hp => putK N fr d v fun fr => K' fr hp (nx + 1))
        exact forceO_swap ob hk2 (snocK_mk hp (putK_mono h1 fun fr h => hm _ _ _ h))
  | set v i ob =>
    cases g with
    | some b => cases dr <;> exact hk
    | none =>
      cases dr with
      | true => exact hk
      | false =>
        have hk2 : forceO ob (fun o' => setK hp i o' fun hp => putK N fr d v fun fr => K fr hp nx) := hk
        obtain ⟨hi, h1⟩ := setK_ok hp (forceO_ok ob hk2)
        show forceO ob (fun o' => setK hp i o' fun hp => putK N fr d v fun fr => K' fr hp nx)
        exact forceO_swap ob hk2 (setK_mk hp hi (putK_mono h1 fun fr h => hm _ _ _ h))
  | upd v i ob =>
    cases g with
    | some b => cases dr <;> exact hk
    | none =>
      cases dr with
      | true => exact hk
      | false =>
        have hk2 : forceO ob (fun o' => setK hp i o' fun hp => putK N fr d v fun fr => K fr hp nx) := hk
        obtain ⟨hi, h1⟩ := setK_ok hp (forceO_ok ob hk2)
        show forceO ob (fun o' => setK hp i o' fun hp => putK N fr d v fun fr => K' fr hp nx)
        exact forceO_swap ob hk2 (setK_mk hp hi (putK_mono h1 fun fr h => hm _ _ _ h))
theorem pickO_mono {fr : Fr} {hp : List AO} {nx : Nat} {d : Option Nat} {g : Option Bool} {x : Bool} {a b : AV} (hm : ∀ fr hp nx, K fr hp nx → K' fr hp nx) (hk : pickO N fr hp nx d g x a b K) : pickO N fr hp nx d g x a b K' := by
  unfold pickO at *
  cases g with
  | none =>
    obtain ⟨y, hy, hs⟩ := pickB_loc hk
    exact hs _ (putK_mono hy fun fr h => hm _ _ _ h)
  | some g =>
    obtain ⟨y, hy, hs⟩ := pickB_loc hk
    exact hs _ (putK_mono hy fun fr h => hm _ _ _ h)
theorem obsO_mono {fr : Fr} {g : Option Bool} {l : List Operand} {K K' : Prop} (hk : obsO fr g l K) (h : K → K') : obsO fr g l K' := obsO_loc (fun _ _ => rfl) hk h
theorem stepO_mono {dr sq : Bool} {fr : Fr} {hp : List AO} {nx : Nat} {o : Oper} {g : Option Bool} (hm : ∀ fr hp nx, K fr hp nx → K' fr hp nx) (hk : stepO E dr sq fr hp nx o g K) : stepO E dr sq fr hp nx o g K' := by
  unfold stepO at *
  split
  · rename_i x p q hop
    simp only [hop] at hk
    split
    · rename_i b hb
      simp only [hb] at hk
      exact obsO_mono hk (pickO_mono hm)
    · rename_i hne
      split at hk
      · rename_i b hb; exact absurd hb (hne b)
      · exact hk
  · rename_i hne
    split at hk
    · rename_i x p q hop; exact absurd hop (hne x p q)
    · exact obsO_mono hk (stepR_mono hm)
theorem stepS_mono {dr sq : Bool} {fr : Fr} {hp : List AO} {nx : Nat} {o : Oper} {g : Bool} (hm : ∀ fr hp nx, K fr hp nx → K' fr hp nx) (hk : stepS E dr sq fr hp nx o g K) : stepS E dr sq fr hp nx o g K' := by
  unfold stepS at *
  cases hmk : makesO o with
  | true => rw [hmk] at hk; exact ⟨hk.1, stepO_mono hm hk.2⟩
  | false => rw [hmk] at hk; exact stepO_mono hm hk
theorem stepG_mono {dr sq : Bool} {all : List Oper} {fr : Fr} {hp : List AO} {nx : Nat} {o : Oper} (hm : ∀ fr hp nx, K fr hp nx → K' fr hp nx) (hk : stepG E dr sq all o fr hp nx K) : stepG E dr sq all o fr hp nx K' := by
  unfold stepG at *
  cases hgd : o.guard with
  | none => simp only [hgd] at hk ⊢; exact stepO_mono hm hk
  | some p =>
    obtain ⟨j, want⟩ := p
    simp only [hgd] at hk ⊢
    cases hd : dstAt all j with
    | none => simp [hd] at hk
    | some d =>
      simp only [hd] at hk ⊢
      unfold guardOf at *
      split
      · rename_i b e
        simp only [e] at hk
        exact stepS_mono hm hk
      · rename_i c b e
        simp only [e] at hk
        exact stepS_mono hm hk
      · rename_i h1 h2
        split at hk
        · rename_i b e; exact absurd e (h1 b)
        · rename_i c b e; exact absurd e (h2 c b)
        · exact hk
theorem runOps_mono {all : List Oper} (hm : ∀ fr hp nx, K fr hp nx → K' fr hp nx) : ∀ (l : List Oper) {fr : Fr} {hp : List AO} {nx : Nat}, runOps E all l fr hp nx K → runOps E all l fr hp nx K'
  | [], _, _, _, h => hm _ _ _ h
  | o :: r, _, _, _, h => stepG_mono (fun _ _ _ h => runOps_mono hm r h) h
/-! There is an end. -/
theorem stepR_some {dr sq : Bool} {fr : Fr} {hp : List AO} {nx : Nat} {d : Option Nat} {g : Option Bool} {r : R} (hk : stepR N dr sq fr hp nx d g r K) : ∃ fr' hp' nx', K fr' hp' nx' := by
  cases r with
  | no => exact Stuck.out hk
  | ok v =>
    have h1 := force_ok v hk
    cases g <;> exact ⟨_, _, _, (putK_F h1).1⟩
  | ob p v =>
    have h1 := force_ok v hk
    cases g <;> exact ⟨_, _, _, (putK_F h1.2).1⟩
  | call r =>
    have h1 := force_ok r.res hk
    cases g <;> exact ⟨_, _, _, (putK_F h1.2).1⟩
  | any p F =>
    cases g with
    | some b => cases dr <;> cases sq <;> exact Stuck.out hk
    | none =>
      cases dr with
      | true => cases sq <;> exact Stuck.out hk
      | false =>
        cases sq with
        | false => exact Stuck.out hk
        | true =>
          have hk2 : p ∧ every fun hd => forceH (F hd) fun hp' => putK N fr d .u fun fr => K fr hp' (lenO hp') := hk
          exact ⟨_, _, _, (putK_F (forceH_ok _ (every_out hk2.2 (.bool true)))).1⟩
  | act m p v hp' =>
    cases g with
    | some b =>
      cases dr with
      | true => cases sq <;> exact Stuck.out hk
      | false =>
        cases sq with
        | false => exact Stuck.out hk
        | true =>
          have hk2 : force v (fun v => forceH hp' fun hp' => fork b (p ∧ putK N fr d (.gd b v) fun fr => K fr hp' (lenO hp')) (putK N fr d (.gd b v) fun fr => K fr hp nx)) := hk
          have h1 := forceH_ok hp' (force_ok v hk2)
          cases hb : b with
          | true => exact ⟨_, _, _, (putK_F ((fork_out h1).1 hb).2).1⟩
          | false => exact ⟨_, _, _, (putK_F ((fork_out h1).2 hb)).1⟩
    | none =>
      cases dr with
      | true => exact Stuck.out hk
      | false =>
        have hk2 : force v (fun v => forceH hp' fun hp' => p ∧ putK N fr d v fun fr => K fr hp' (lenO hp')) := hk
        exact ⟨_, _, _, (putK_F (forceH_ok hp' (force_ok v hk2)).2).1⟩
  | new v ob =>
    cases g with
    | some b => cases dr <;> exact Stuck.out hk
    | none =>
      cases dr with
      | true => exact Stuck.out hk
      | false =>
        have hk2 : forceO ob (fun o' => snocK hp o' fun hp => putK N fr d v fun fr => K fr hp (nx + 1)) := hk
        exact ⟨_, _, _, (putK_F (snocK_ok hp (forceO_ok ob hk2))).1⟩
  | set v i ob =>
    cases g with
    | some b => cases dr <;> exact Stuck.out hk
    | none =>
      cases dr with
      | true => exact Stuck.out hk
      | false =>
        have hk2 : forceO ob (fun o' => setK hp i o' fun hp => putK N fr d v fun fr => K fr hp nx) := hk
        exact ⟨_, _, _, (putK_F (setK_ok hp (forceO_ok ob hk2)).2).1⟩
  | upd v i ob =>
    cases g with
    | some b => cases dr <;> exact Stuck.out hk
    | none =>
      cases dr with
      | true => exact Stuck.out hk
      | false =>
        have hk2 : forceO ob (fun o' => setK hp i o' fun hp => putK N fr d v fun fr => K fr hp nx) := hk
        exact ⟨_, _, _, (putK_F (setK_ok hp (forceO_ok ob hk2)).2).1⟩
theorem pickO_some {fr : Fr} {hp : List AO} {nx : Nat} {d : Option Nat} {g : Option Bool} {x : Bool} {a b : AV} (hk : pickO N fr hp nx d g x a b K) : ∃ fr' hp' nx', K fr' hp' nx' := by
  unfold pickO at hk
  cases g with
  | none =>
    obtain ⟨y, hy, hs⟩ := pickB_loc hk
    exact ⟨_, _, _, (putK_F hy).1⟩
  | some g =>
    obtain ⟨y, hy, hs⟩ := pickB_loc hk
    exact ⟨_, _, _, (putK_F hy).1⟩
theorem stepO_some {dr sq : Bool} {fr : Fr} {hp : List AO} {nx : Nat} {o : Oper} {g : Option Bool} (hk : stepO E dr sq fr hp nx o g K) : ∃ fr' hp' nx', K fr' hp' nx' := by
  unfold stepO at hk
  split at hk
  · split at hk
    · exact pickO_some (obsO_K hk)
    · exact hk.elim
  · exact stepR_some (obsO_K hk)
theorem stepS_some {dr sq : Bool} {fr : Fr} {hp : List AO} {nx : Nat} {o : Oper} {g : Bool} (hk : stepS E dr sq fr hp nx o g K) : ∃ fr' hp' nx', K fr' hp' nx' := by
  unfold stepS at hk
  cases hmk : makesO o with
  | true => rw [hmk] at hk; exact stepO_some hk.2
  | false => rw [hmk] at hk; exact stepO_some hk
theorem stepG_some {dr sq : Bool} {all : List Oper} {fr : Fr} {hp : List AO} {nx : Nat} {o : Oper} (hk : stepG E dr sq all o fr hp nx K) : ∃ fr' hp' nx', K fr' hp' nx' := by
  unfold stepG at hk
  cases hgd : o.guard with
  | none => simp only [hgd] at hk; exact stepO_some hk
  | some p =>
    obtain ⟨j, want⟩ := p
    simp only [hgd] at hk
    cases hd : dstAt all j with
    | none => simp [hd] at hk
    | some d =>
      simp only [hd] at hk
      unfold guardOf at hk
      split at hk
      · exact stepS_some hk
      · exact stepS_some hk
      · exact hk.elim
theorem runOps_some {all : List Oper} : ∀ (l : List Oper) {fr : Fr} {hp : List AO} {nx : Nat} {K : Post}, runOps E all l fr hp nx K → ∃ fr' hp' nx', K fr' hp' nx'
  | [], fr, hp, nx, K, h => ⟨fr, hp, nx, h⟩
  | o :: r, fr, hp, nx, K, h => by
    obtain ⟨fr', hp', nx', hK⟩ := stepG_some (all := all) h
    exact runOps_some r hK
end

end Go.Proofs.Ytbgcgokikekmoaa.Eng

/- ENGINE 2, 10: a region that draws; codes; functions. -/
namespace Go.Proofs.Ytbgcgokikekmoaa.Eng
set_option linter.unusedVariables false
set_option linter.unusedSimpArgs false
open Go Go.RowKit

theorem count_set : ∀ (l : List Bool) (i : Nat), l[i]? = some false → (l.set i true).count false + 1 = l.count false
  | [], i, h => by simp at h
  | x :: r, 0, h => by
    have : x = false := by simpa using h
    subst this
    simp
  | x :: r, i + 1, h => by
    have ih := count_set r i (by simpa using h)
    simp only [List.set_cons_succ, List.count_cons]
    omega

section
variable {P : Program} {E : Env} {W0 : World} {X : Bd} {ops : List Oper} {V : Nat → AV} {F : Nat → Fr} {H : Nat → List AO} {M : Nat → Nat} {Qe : Exit → Act → World → Prop}

theorem Gam.congr {N : Nat} {c : Cx} {fr fr' : Fr} {hp : List AO} {nx : Nat} {a : Act} (h : Gam W0 X N c fr hp nx a) (he : ∀ t, look fr' t = look fr t) : Gam W0 X N c fr' hp nx a :=
  { h with f := fun i => by rw [he i]; exact h.f i }

theorem look_put (d : Nat) (v : AV) (fr : Fr) (t : Nat) : look ((d, v) :: fr) t = if d = t then v else look fr t := by
  show (bif Nat.beq d t then v else look fr t) = _
  by_cases h : d = t
  · subst h; simp
  · simp [beq_ne h, h]

theorem take_at {q i : Nat} (h : i < q) (hq : q ≤ ops.length) : (ops.take q)[i]? = some ops[i] := by
  rw [List.getElem?_take, if_pos h]; exact List.getElem?_eq_getElem (by omega)

section
variable {S : Nat → Nat} {D : Nat → List (Nat × AO)} {O : Nat → AO} {q : Nat}
/-- An operation that makes an object at a place of its own. -/
def NewAt (E : Env) (ops : List Oper) (q j : Nat) : Prop := j < q ∧ barrier (bef ops) (ops.map (hsen E)) j = false ∧ ∃ o, ops[j]? = some o ∧ isNew o = true

theorem seq_step (hql : q ≤ ops.length) (hs : Seq E ops (bef ops) (ops.map (hsen E)) 0 (ops.take q) V F H M S D O) {p : Nat} (hp : p < q) (hb : barrier (bef ops) (ops.map (hsen E)) p = false) : H (p + 1) = H p ∧ M (p + 1) = M p := by
  have hl : (ops.take q)[p]? = some (ops[p]'(by omega)) := take_at hp hql
  cases hn : isNew (ops[p]'(by omega)) with
  | true =>
    have := hs.nw p _ hl (by rw [Nat.zero_add]; exact hb) hn
    simp only [Nat.zero_add] at this
    exact ⟨this.1, this.2.1⟩
  | false =>
    have := hs.pu p _ hl (by rw [Nat.zero_add]; exact hb) hn
    simp only [Nat.zero_add] at this
    exact ⟨this.1, this.2.1⟩
theorem seq_const (hql : q ≤ ops.length) (hs : Seq E ops (bef ops) (ops.map (hsen E)) 0 (ops.take q) V F H M S D O) : ∀ (k p : Nat), p + k ≤ q → (∀ e, p ≤ e → e < p + k → barrier (bef ops) (ops.map (hsen E)) e = false) → H (p + k) = H p ∧ M (p + k) = M p
  | 0, p, _, _ => ⟨rfl, rfl⟩
  | k + 1, p, hle, hb => by
    have ih := seq_const hql hs k p (by omega) (fun e h1 h2 => hb e h1 (by omega))
    have := seq_step hql hs (p := p + k) (by omega) (hb (p + k) (by omega) (by omega))
    rw [show p + (k + 1) = p + k + 1 by omega]
    exact ⟨this.1.trans ih.1, this.2.trans ih.2⟩
theorem seq_same (hql : q ≤ ops.length) (hs : Seq E ops (bef ops) (ops.map (hsen E)) 0 (ops.take q) V F H M S D O) {r s : Nat} (hr : r ≤ q) (hsq : s ≤ q) (hiff : ∀ e, e < q → barrier (bef ops) (ops.map (hsen E)) e = true → (e < r ↔ e < s)) : H s = H r ∧ M s = M r := by
  have key : ∀ r s, r ≤ s → s ≤ q → (∀ e, e < q → barrier (bef ops) (ops.map (hsen E)) e = true → (e < r ↔ e < s)) → H s = H r ∧ M s = M r := by
    intro r s hrs hsq hiff
    have := seq_const hql hs (s - r) r (by omega) (fun e h1 h2 => by
      cases hb : barrier (bef ops) (ops.map (hsen E)) e with
      | false => rfl
      | true => have := (hiff e (by omega) hb).2 (by omega); omega)
    rwa [show r + (s - r) = s by omega] at this
  rcases Nat.le_total r s with h | h
  · exact key r s h hsq hiff
  · have := key s r h hr (fun e he hb => (hiff e he hb).symm)
    exact ⟨this.1.symm, this.2.symm⟩

theorem seq_S (hql : q ≤ ops.length) (hs : Seq E ops (bef ops) (ops.map (hsen E)) 0 (ops.take q) V F H M S D O) {p : Nat} (hp : p < q) : S p ≤ S (p + 1) ∧ (NewAt E ops q p → S (p + 1) = S p + 1) := by
  have hl : (ops.take q)[p]? = some (ops[p]'(by omega)) := take_at hp hql
  have hl' : ops[p]? = some (ops[p]'(by omega)) := List.getElem?_eq_getElem (by omega)
  cases hb : barrier (bef ops) (ops.map (hsen E)) p with
  | true =>
    have := hs.br p _ hl (by rw [Nat.zero_add]; exact hb)
    simp only [Nat.zero_add] at this
    exact ⟨Nat.le_of_eq this.1.symm, fun h => absurd (hb.symm.trans h.2.1) (by simp)⟩
  | false =>
    cases hn : isNew (ops[p]'(by omega)) with
    | true =>
      have := hs.nw p _ hl (by rw [Nat.zero_add]; exact hb) hn
      simp only [Nat.zero_add] at this
      exact ⟨by omega, fun _ => this.2.2.1⟩
    | false =>
      have := hs.pu p _ hl (by rw [Nat.zero_add]; exact hb) hn
      simp only [Nat.zero_add] at this
      refine ⟨by omega, fun h => ?_⟩
      obtain ⟨_, _, o, ho, hno⟩ := h
      rw [hl'] at ho; injection ho with ho
      rw [ho, hno] at hn; cases hn
theorem seq_Sle (hql : q ≤ ops.length) (hs : Seq E ops (bef ops) (ops.map (hsen E)) 0 (ops.take q) V F H M S D O) : ∀ (k p : Nat), p + k ≤ q → S p ≤ S (p + k)
  | 0, _, _ => Nat.le_refl _
  | k + 1, p, h => Nat.le_trans (seq_Sle hql hs k p (by omega)) (seq_S hql hs (p := p + k) (by omega)).1
theorem slot_lt (hql : q ≤ ops.length) (hs : Seq E ops (bef ops) (ops.map (hsen E)) 0 (ops.take q) V F H M S D O) {i j : Nat} (hi : NewAt E ops q i) (hij : i < j) (hj : j ≤ q) : S i < S j := by
  have h1 := (seq_S hql hs hi.1).2 hi
  have h2 := seq_Sle hql hs (j - (i + 1)) (i + 1) (by omega)
  rw [show i + 1 + (j - (i + 1)) = j by omega] at h2
  omega
theorem slot_ne (hql : q ≤ ops.length) (hs : Seq E ops (bef ops) (ops.map (hsen E)) 0 (ops.take q) V F H M S D O) {i j : Nat} (hi : NewAt E ops q i) (hj : NewAt E ops q j) (hij : i ≠ j) : S i ≠ S j := by
  rcases Nat.lt_or_gt_of_ne hij with h | h
  · have := slot_lt hql hs hi h (Nat.le_of_lt hj.1); omega
  · have := slot_lt hql hs hj h (Nat.le_of_lt hi.1); omega

theorem seq_new (hql : q ≤ ops.length) (hs : Seq E ops (bef ops) (ops.map (hsen E)) 0 (ops.take q) V F H M S D O) {j : Nat} {o : Oper} (hj : j < q) (hb : barrier (bef ops) (ops.map (hsen E)) j = false) (ho : ops[j]? = some o) (hn : isNew o = true) :
    H (j + 1) = H j ∧ M (j + 1) = M j ∧ S (j + 1) = S j + 1 ∧ D (j + 1) = D j ++ [(S j, O j)] ∧ getAO (H j) (S j) = .void ∧
    ∀ fr', Agree ops o (F j) fr' → obs fr' true o.op.operands.toList True ∧ evalOp E (opd fr') (H j) (S j) o.op = .new (V j) (O j) ∧ putK E.N fr' o.dst (V j) (fun fr => fr = putF o.dst (V j) fr') := by
  have hl : (ops.take q)[j]? = some o := by rw [List.getElem?_take, if_pos hj]; exact ho
  have := hs.nw j _ hl (by rw [Nat.zero_add]; exact hb) hn
  simp only [Nat.zero_add] at this
  exact this

/-- What is pending. -/
theorem seq_D (hql : q ≤ ops.length) (hs : Seq E ops (bef ops) (ops.map (hsen E)) 0 (ops.take q) V F H M S D O) (hD : D 0 = []) : ∀ (k : Nat), k ≤ q → ∀ x o, (x, o) ∈ D k ↔ ∃ j, NewAt E ops q j ∧ j < k ∧ (∀ e, j ≤ e → e < k → barrier (bef ops) (ops.map (hsen E)) e = false) ∧ x = S j ∧ o = O j
  | 0, _, x, o => by
    rw [hD]
    refine ⟨fun h => by simp at h, fun ⟨j, _, h, _⟩ => absurd h (Nat.not_lt_zero _)⟩
  | k + 1, hk, x, o => by
    have ih := seq_D hql hs hD k (by omega) x o
    have hl : (ops.take q)[k]? = some (ops[k]'(by omega)) := take_at (by omega) hql
    have hl' : ops[k]? = some (ops[k]'(by omega)) := List.getElem?_eq_getElem (by omega)
    cases hb : barrier (bef ops) (ops.map (hsen E)) k with
    | true =>
      have := hs.br k _ hl (by rw [Nat.zero_add]; exact hb)
      simp only [Nat.zero_add] at this
      rw [this.2.1]
      refine ⟨fun h => by simp at h, fun ⟨j, _, h1, h2, _⟩ => ?_⟩
      have := h2 k (by omega) (by omega)
      rw [hb] at this; cases this
    | false =>
      cases hn : isNew (ops[k]'(by omega)) with
      | true =>
        have := seq_new hql hs (by omega) hb hl' hn
        rw [this.2.2.2.1, List.mem_append, ih]
        constructor
        · rintro (⟨j, h1, h2, h3, h4⟩ | h)
          · exact ⟨j, h1, by omega, fun e he1 he2 => by
              by_cases hek : e = k
              · rw [hek]; exact hb
              · exact h3 e he1 (by omega), h4⟩
          · simp only [List.mem_singleton, Prod.mk.injEq] at h
            exact ⟨k, ⟨by omega, hb, _, hl', hn⟩, by omega, fun e he1 he2 => by rw [show e = k by omega]; exact hb, h⟩
        · rintro ⟨j, h1, h2, h3, h4, h5⟩
          by_cases hjk : j = k
          · subst hjk; exact .inr (by simp [h4, h5])
          · exact .inl ⟨j, h1, by omega, fun e he1 he2 => h3 e he1 (by omega), h4, h5⟩
      | false =>
        have := hs.pu k _ hl (by rw [Nat.zero_add]; exact hb) hn
        simp only [Nat.zero_add] at this
        rw [this.2.2.2.1, ih]
        constructor
        · rintro ⟨j, h1, h2, h3, h4⟩
          exact ⟨j, h1, by omega, fun e he1 he2 => by
              by_cases hek : e = k
              · rw [hek]; exact hb
              · exact h3 e he1 (by omega), h4⟩
        · rintro ⟨j, h1, h2, h3, h4⟩
          have hjk : j ≠ k := fun e => by
            subst e
            obtain ⟨_, _, o', ho', hno⟩ := h1
            rw [hl'] at ho'; injection ho' with ho'
            rw [ho', hno] at hn; cases hn
          exact ⟨j, h1, by omega, fun e he1 he2 => h3 e he1 (by omega), h4⟩
end

theorem flush_out : ∀ (pd : List (Nat × AO)) (hp : List AO) (x : Nat), (∀ o, (x, o) ∉ pd) → (flushL pd hp)[x]? = hp[x]?
  | [], hp, x, _ => rfl
  | (i, o) :: r, hp, x, h => by
    have hix : i ≠ x := fun e => h o (by rw [e]; simp)
    rw [flushL, flush_out r _ x (fun o' ho' => h o' (by simp [ho'])), List.getElem?_set_ne hix]
theorem flush_len : ∀ (pd : List (Nat × AO)) (hp : List AO), (flushL pd hp).length = hp.length
  | [], _ => rfl
  | (i, o) :: r, hp => by rw [flushL, flush_len r]; simp
theorem flush_in : ∀ (pd : List (Nat × AO)) (hp : List AO) (x : Nat) (o : AO), (∀ o o', (x, o) ∈ pd → (x, o') ∈ pd → o = o') → (x, o) ∈ pd → x < hp.length → (flushL pd hp)[x]? = some o
  | [], _, _, _, _, h, _ => by simp at h
  | (i, o') :: r, hp, x, o, hf, h, hx => by
    rw [flushL]
    by_cases hr : ∃ o2, (x, o2) ∈ r
    · obtain ⟨o2, ho2⟩ := hr
      have : o = o2 := hf o o2 h (by simp [ho2])
      rw [this]
      exact flush_in r _ x o2 (fun a b ha hb => hf a b (by simp [ha]) (by simp [hb])) ho2 (by simpa using hx)
    · rw [flush_out r _ x (fun o2 ho2 => hr ⟨o2, ho2⟩)]
      have hxi : x = i ∧ o = o' := by
        rcases List.mem_cons.1 h with h | h
        · simpa using h
        · exact absurd ⟨o, h⟩ hr
      obtain ⟨rfl, rfl⟩ := hxi
      simp [hx]
theorem void_at {l : List AO} {x : Nat} (h : getAO l x = .void) : l[x]? = some .void := by
  rw [getAO_eq] at h
  cases hx : l[x]? with
  | none => rw [hx] at h; cases h
  | some o => rw [hx] at h; simpa using h

/-- The lexical frame before operation i. -/
theorem seq_look (hd : drawOk ops = true) {S : Nat → Nat} {D : Nat → List (Nat × AO)} {O : Nat → AO} {q : Nat} (hql : q ≤ ops.length) (hs : Seq E ops (bef ops) (ops.map (hsen E)) 0 (ops.take q) V F H M S D O) : ∀ (i : Nat), i ≤ q → (∀ j o t, j < i → ops[j]? = some o → o.dst = some t → look (F i) t = V j) ∧ (∀ t, (∀ j o, j < i → ops[j]? = some o → o.dst ≠ some t) → look (F i) t = look (F 0) t)
  | 0, _ => ⟨fun j o t hj => absurd hj (Nat.not_lt_zero _), fun t _ => rfl⟩
  | i + 1, hi => by
    obtain ⟨h1, h2⟩ := seq_look hd hql hs i (by omega)
    have ho : ops[i]? = some (ops[i]'(by omega)) := List.getElem?_eq_getElem (by omega)
    have hf := hs.f i _ (take_at (by omega) hql)
    simp only [Nat.zero_add] at hf
    refine ⟨fun j o t hj hjo ht => ?_, fun t hall => ?_⟩
    · rw [hf]
      by_cases hji : j = i
      · subst hji
        rw [ho] at hjo; injection hjo with hjo
        rw [hjo, ht]
        simp [putF, look_put]
      · have hne : ∀ d, (ops[i]'(by omega)).dst = some d → d ≠ t := fun d hd' e => hji (dst_ne hd hjo ho ht (e ▸ hd'))
        cases hdi : (ops[i]'(by omega)).dst with
        | none => exact h1 j o t (by omega) hjo ht
        | some d =>
          simp only [putF, look_put, if_neg (hne d hdi)]
          exact h1 j o t (by omega) hjo ht
    · rw [hf]
      cases hdi : (ops[i]'(by omega)).dst with
      | none => exact h2 t fun j o hj hjo => hall j o (by omega) hjo
      | some d =>
        have : d ≠ t := fun e => hall i _ (by omega) ho (e ▸ hdi)
        simp only [putF, look_put, if_neg this]
        exact h2 t fun j o hj hjo => hall j o (by omega) hjo

/-- The barriers behind p are those behind j. -/
def Pend (E : Env) (ops : List Oper) (q p j : Nat) : Prop := ∀ e, e < q → barrier (bef ops) (ops.map (hsen E)) e = true → (e < j ↔ e < p)

structure Inv (E : Env) (W0 : World) (X : Bd) (N : Nat) (ops : List Oper) (V : Nat → AV) (F : Nat → Fr) (H : Nat → List AO) (M S : Nat → Nat) (O : Nat → AO) (q : Nat) (listed : Array Bool) (a : Act) (w : World) (c : Cx) (fr : Fr) (hp : List AO) (p : Nat) : Prop where
  sz : listed.size = ops.length
  cl : Closed ops listed
  cw : c.w = w
  g : Gam W0 X N c fr hp (M p) a
  pl : p ≤ q
  tl : ∀ i, q ≤ i → ¬ On listed i
  b : ∀ e, e < q → barrier (bef ops) (ops.map (hsen E)) e = true → (On listed e ↔ e < p)
  v : ∀ i o t, ops[i]? = some o → On listed i → o.dst = some t → look fr t = V i
  u : ∀ t, (∀ i o, ops[i]? = some o → On listed i → o.dst ≠ some t) → look fr t = look (F 0) t
  al : ∀ j, NewAt E ops q j → On listed j → Pend E ops q p j → hp[S j]? = some (O j)
  ar : ∀ x, (∀ j, NewAt E ops q j → On listed j → Pend E ops q p j → S j ≠ x) → hp[x]? = (H p)[x]?

theorem on_set {listed : Array Bool} {i j : Nat} (hi : i < listed.size) : On (listed.setIfInBounds i true) j ↔ j = i ∨ On listed j := by
  unfold On
  by_cases h : j = i
  · subst h; simp [Array.getD, hi]
  · have h' : i ≠ j := fun e => h e.symm
    by_cases hj : j < listed.size <;> simp [Array.getD, hj, h, Array.getElem_setIfInBounds, h']

theorem any_ok (hE : EnvOk P E) (hd : drawOk ops = true) {S : Nat → Nat} {D : Nat → List (Nat × AO)} {O : Nat → AO} {q : Nat} (hql : q ≤ ops.length) (htl : ∀ k, q ≤ k → k < ops.length → ∀ j, j < q → j ∈ (bef ops).getD k []) (hs : Seq E ops (bef ops) (ops.map (hsen E)) 0 (ops.take q) V F H M S D O) (hD0 : D 0 = [])
    (hfin : ∀ (fuel : Nat) (listed : Array Bool) (a : Act) (w : World), listed.toList.count false ≤ fuel → listed.size = ops.length → Closed ops listed → (∀ i, i < q → On listed i) → (∀ i, q ≤ i → ¬ On listed i) → (∃ c, c.w = w ∧ Gam W0 X E.N c (F q) (flushL (D q) (H q)) (M q) a) → wpAny P .any ops.toArray Qe fuel listed a w) :
    ∀ (fuel : Nat) (listed : Array Bool) (a : Act) (w : World), listed.toList.count false ≤ fuel →
      (∃ c fr hp p, Inv E W0 X E.N ops V F H M S O q listed a w c fr hp p) → wpAny P .any ops.toArray Qe fuel listed a w := by
  have hlen := (befGo_spec ops []).1
  simp only [List.length_nil, Nat.zero_add] at hlen
  -- as long as one of the first is missing, one of them can go
  have more : ∀ (listed : Array Bool), listed.size = ops.length → Closed ops listed → ¬ (∀ i, i < q → On listed i) → Region.ready .any ops.toArray listed ≠ [] := by
    intro listed hsz hcl hno hr
    refine hno fun i hi => ?_
    have all : ∀ n i, i < n → i < q → On listed i := by
      intro n
      induction n with
      | zero => exact fun i hi => absurd hi (Nat.not_lt_zero _)
      | succ n ih =>
        intro i hi hil
        by_cases hon : On listed i
        · exact hon
        · exfalso
          have ho : ops[i]? = some (ops[i]'(by omega)) := List.getElem?_eq_getElem (by omega)
          have : i ∈ Region.ready .any ops.toArray listed := by
            rw [mem_ready]
            refine ⟨?_, ops[i]'(by omega), by simp [ho], fun e he hb => ?_⟩
            · unfold On at hon
              have hls : i < listed.size := by omega
              simp [Array.getD, hls] at hon ⊢
              exact hon
            · have hlt := drawOk_edge hd ho he hb
              exact ih e.on (by omega) (by omega)
          rw [hr] at this
          cases this
    exact all (i + 1) i (by omega) hi
  -- the objects there are those of the lexical run, with what is pending
  have flush : ∀ (listed : Array Bool) (hp : List AO) (i : Nat), i ≤ q → (∀ j, NewAt E ops q j → j < i → On listed j) → (∀ j, NewAt E ops q j → i ≤ j → Pend E ops q i j → ¬ On listed j) →
      (∀ j, NewAt E ops q j → On listed j → Pend E ops q i j → hp[S j]? = some (O j)) → (∀ x, (∀ j, NewAt E ops q j → On listed j → Pend E ops q i j → S j ≠ x) → hp[x]? = (H i)[x]?) → hp = flushL (D i) (H i) := by
    intro listed hp i hi hon hoff al ar
    have hmem := seq_D hql hs hD0 i hi
    have hpend : ∀ j, NewAt E ops q j → j < i → (∀ e, j ≤ e → e < i → barrier (bef ops) (ops.map (hsen E)) e = false) → Pend E ops q i j := fun j hj hji hbb e he hbe => by
      constructor
      · intro h; omega
      · intro h
        rcases Nat.lt_or_ge e j with h1 | h1
        · exact h1
        · rw [hbb e h1 h] at hbe; cases hbe
    have hnob : ∀ j, NewAt E ops q j → j < i → Pend E ops q i j → ∀ e, j ≤ e → e < i → barrier (bef ops) (ops.map (hsen E)) e = false := fun j hj hji hpj e h1 h2 => by
      cases hbe : barrier (bef ops) (ops.map (hsen E)) e with
      | false => rfl
      | true => have := (hpj e (by omega) hbe).2 h2; omega
    refine List.ext_getElem? fun x => ?_
    by_cases hx : ∃ j, NewAt E ops q j ∧ On listed j ∧ Pend E ops q i j ∧ S j = x
    · obtain ⟨j, hj, hjon, hjp, rfl⟩ := hx
      have hji : j < i := Classical.byContradiction fun h => hoff j hj (by omega) hjp hjon
      rw [al j hj hjon hjp]
      have hj0 := hj
      obtain ⟨_, hbj, oj, hoj, hnj⟩ := hj0
      have hv := (seq_new hql hs hj.1 hbj hoj hnj).2.2.2.2.1
      rw [← (seq_same hql hs (r := j) (s := i) (by have := hj.1; omega) hi hjp).1] at hv
      have hin : (S j, O j) ∈ D i := (hmem _ _).2 ⟨j, hj, hji, hnob j hj hji hjp, rfl, rfl⟩
      have hvl := (List.getElem?_eq_some_iff.1 (void_at hv)).1
      refine (flush_in _ _ _ _ (fun o1 o2 h1 h2 => ?_) hin hvl).symm
      obtain ⟨j1, n1, _, _, e1, f1⟩ := (hmem _ _).1 h1
      obtain ⟨j2, n2, _, _, e2, f2⟩ := (hmem _ _).1 h2
      have : j1 = j2 := Classical.byContradiction fun hne => slot_ne hql hs n1 n2 hne (e1.symm.trans e2)
      rw [f1, f2, this]
    · rw [ar x fun j h1 h2 h3 h4 => hx ⟨j, h1, h2, h3, h4⟩]
      refine (flush_out _ _ _ fun o ho => ?_).symm
      obtain ⟨j, n1, h1, h2, e1, _⟩ := (hmem _ _).1 ho
      exact hx ⟨j, n1, hon j n1 h1, hpend j n1 h1 h2, e1.symm⟩
  -- all of the first are there
  have reach : ∀ (listed : Array Bool) (a : Act) (w : World), (∃ c fr hp p, Inv E W0 X E.N ops V F H M S O q listed a w c fr hp p) → (∀ i, i < q → On listed i) → ∃ c, c.w = w ∧ Gam W0 X E.N c (F q) (flushL (D q) (H q)) (M q) a := by
    rintro listed a w ⟨c, fr, hp, p, I⟩ all'
    obtain ⟨h1, h2⟩ := seq_look hd hql hs q (Nat.le_refl _)
    have hpq : ∀ e, e < q → barrier (bef ops) (ops.map (hsen E)) e = true → (e < p ↔ e < q) := fun e he hb => ⟨fun _ => he, fun _ => (I.b e he hb).1 (all' e he)⟩
    have hc := seq_same hql hs I.pl (Nat.le_refl q) hpq
    have hpd : ∀ j, Pend E ops q p j ↔ Pend E ops q q j := fun j => ⟨fun h e he hb => (h e he hb).trans (hpq e he hb), fun h e he hb => (h e he hb).trans (hpq e he hb).symm⟩
    have hfl := flush listed hp q (Nat.le_refl _) (fun j hj _ => all' j hj.1) (fun j hj hqj => absurd hj.1 (by omega)) (fun j n1 n2 n3 => I.al j n1 n2 ((hpd j).2 n3)) (fun x hx => by
      rw [hc.1]
      exact I.ar x fun j n1 n2 n3 => hx j n1 n2 ((hpd j).1 n3))
    refine ⟨c, I.cw, ?_⟩
    rw [← hfl, hc.2]
    refine I.g.congr fun t => ?_
    by_cases hex : ∃ (i : Nat) (o : Oper), i < q ∧ ops[i]? = some o ∧ o.dst = some t
    · obtain ⟨i, o, hil, hio, ht⟩ := hex
      rw [h1 i o t hil hio ht, I.v i o t hio (all' i hil) ht]
    · rw [h2 t (fun j o hj hjo ht => hex ⟨j, o, hj, hjo, ht⟩), I.u t (fun i o hio hon ht => by
        by_cases hiq : i < q
        · exact hex ⟨i, o, hiq, hio, ht⟩
        · exact I.tl i (by omega) hon)]
  intro fuel
  induction fuel with
  | zero =>
    intro listed a w hcnt hI
    by_cases hall : ∀ i, i < q → On listed i
    · have hI' := hI
      obtain ⟨c, fr, hp, p, I⟩ := hI
      exact hfin 0 listed a w hcnt I.sz I.cl hall I.tl (reach listed a w hI' hall)
    · exfalso
      obtain ⟨c, fr, hp, p, I⟩ := hI
      refine more listed I.sz I.cl hall (List.eq_nil_iff_forall_not_mem.2 fun i hi => ?_)
      rw [mem_ready] at hi
      obtain ⟨h0, o, ho, _⟩ := hi
      have hil : i < listed.size := by
        rw [I.sz]
        have : ops[i]? = some o := by simpa using ho
        exact (List.getElem?_eq_some_iff.1 this).1
      have : false ∈ listed.toList := by
        simp [Array.getD, hil] at h0
        exact List.mem_of_getElem? (i := i) (by simp [hil, h0])
      have := List.count_pos_iff.2 this
      omega
  | succ fuel ih =>
    intro listed a w hcnt hI
    by_cases hall0 : ∀ i, i < q → On listed i
    · have hI' := hI
      obtain ⟨c, fr, hp, p, I⟩ := hI
      exact hfin _ listed a w hcnt I.sz I.cl hall0 I.tl (reach listed a w hI' hall0)
    obtain ⟨c, fr, hp, p, I⟩ := hI
    refine ⟨fun hr => absurd hr (more listed I.sz I.cl hall0), fun i hi => ?_⟩
    rw [mem_ready] at hi
    obtain ⟨h0, o, ho', hall⟩ := hi
    have ho : ops[i]? = some o := by simpa using ho'
    have hil : i < ops.length := (List.getElem?_eq_some_iff.1 ho).1
    have hils : i < listed.size := by rw [I.sz]; exact hil
    have hnot : ¬ On listed i := by
      unfold On
      simp [Array.getD, hils] at h0 ⊢
      exact h0
    have hbefore := bef_on I.cl i i (Nat.le_refl _) o ho hall
    have hiq : i < q := by
      rcases Nat.lt_or_ge i q with h | h
      · exact h
      · exact absurd (fun j hj => hbefore j (htl i h hil j hj)) hall0
    -- who waits for i is not there
    have hwait : ∀ k, k < ops.length → i ∈ (bef ops).getD k [] → ¬ On listed k := fun k hk hmem hon => by
      have hko : ops[k]? = some (ops[k]'hk) := List.getElem?_eq_getElem hk
      exact hnot (bef_on I.cl k k (Nat.le_refl _) _ hko (I.cl k _ hko hon) i hmem)
    have hsi : (ops.map (hsen E)).getD i false = hsen E o := by simp [List.getD, ho]
    obtain ⟨l1, l2⟩ := seq_look hd hql hs i (by omega)
    -- what it reads is what it reads there
    have hag : Agree ops o (F i) fr := by
      intro t ht
      by_cases hex : ∃ (k : Nat) (ok : Oper), ops[k]? = some ok ∧ ok.dst = some t
      · obtain ⟨k, ok, hk, hkt⟩ := hex
        rcases dst_read hd ho hk hkt ht with ⟨hki, hmem⟩ | ⟨hik, hmem⟩
        · rw [I.v k ok t hk (hbefore k hmem) hkt, l1 k ok t hki hk hkt]
        · have hkl : k < ops.length := (List.getElem?_eq_some_iff.1 hk).1
          have hknot : ¬ On listed k := hwait k hkl hmem
          rw [I.u t (fun j oj hj hon hjt => by
            have := dst_ne hd hj hk hjt hkt
            subst this
            exact hknot hon), l2 t (fun j oj hj hjo hjt => by
            have := dst_ne hd hjo hk hjt hkt
            omega)]
      · rw [I.u t (fun j oj hj _ hjt => hex ⟨j, oj, hj, hjt⟩), l2 t (fun j oj _ hj hjt => hex ⟨j, oj, hj, hjt⟩)]
    have hoi : (ops.take q)[i]? = some o := by rw [List.getElem?_take, if_pos hiq]; exact ho
    have pass : ∀ {K : Post} (dr : Bool) {nx : Nat}, Gam W0 X E.N c fr hp nx a → stepG E dr false ops o fr hp nx K → (∀ a' w', Is W0 X E.N K a' w' → wpAny P .any ops.toArray Qe fuel (listed.setIfInBounds i true) a' w') → wpOp P ops.toArray Qe i (wpAny P .any ops.toArray Qe fuel (listed.setIfInBounds i true)) a c.w := by
      intro K dr nx hG hstep hnext
      have hmain := stepG_ok (Qe := Qe) hE ops _ _ hG hstep
      unfold wpOp
      simp only [ho']
      split
      · rename_i hw
        rw [if_pos hw] at hmain
        exact .inl (Oper.wp_mono hnext hmain)
      · rename_i hw
        rw [if_neg hw] at hmain
        exact hnext _ _ hmain
    -- on from there
    have next : ∀ (p' : Nat) (hp' : List AO), p' ≤ q → (∀ e, e < q → barrier (bef ops) (ops.map (hsen E)) e = true → ((e = i ∨ On listed e) ↔ e < p')) → (∀ j, NewAt E ops q j → (j = i ∨ On listed j) → Pend E ops q p' j → hp'[S j]? = some (O j)) → (∀ x, (∀ j, NewAt E ops q j → (j = i ∨ On listed j) → Pend E ops q p' j → S j ≠ x) → hp'[x]? = (H p')[x]?) →
        ∀ a' w', Is W0 X E.N (To o.dst (V i) fr hp' (M p')) a' w' → wpAny P .any ops.toArray Qe fuel (listed.setIfInBounds i true) a' w' := by
      rintro p' hp' hpq hb' al' ar' a' w' ⟨c', fr', hp2, nx', hw', hG', rfl, rfl, rfl⟩
      refine ih _ a' w' ?_ ⟨c', putF o.dst (V i) fr, hp2, p', ?_⟩
      · have hfi : listed.toList[i]? = some false := by
          simp [Array.getD, hils] at h0
          simp [hils, h0]
        have := count_set listed.toList i hfi
        rw [Array.toList_setIfInBounds]
        omega
      · refine ⟨by simp [I.sz], fun j oj hj hon e he hb => ?_, hw', hG', hpq, fun j hj hon => ?_, fun e he hb => ?_, fun j oj t hj hon ht => ?_, fun t hallt => ?_, fun j n1 n2 n3 => al' j n1 ((on_set hils).1 n2) n3, fun x hx => ar' x fun j n1 n2 n3 => hx j n1 ((on_set hils).2 n2) n3⟩
        · rw [on_set hils] at hon ⊢
          rcases hon with rfl | hon
          · rw [ho] at hj; injection hj with hj; subst hj
            exact .inr (hall e he hb)
          · exact .inr (I.cl j oj hj hon e he hb)
        · rw [on_set hils] at hon
          rcases hon with rfl | hon
          · omega
          · exact I.tl j hj hon
        · rw [on_set hils]; exact hb' e he hb
        · rw [on_set hils] at hon
          by_cases hji : j = i
          · subst hji
            rw [ho] at hj; injection hj with hj; subst hj
            rw [ht]; simp [putF, look_put]
          · have honj := hon.resolve_left hji
            cases hdo : o.dst with
            | none => exact I.v j oj t hj honj ht
            | some d =>
              have : d ≠ t := fun e => hji (dst_ne hd hj ho ht (e ▸ hdo))
              simp only [putF, look_put, if_neg this]
              exact I.v j oj t hj honj ht
        · have hd1 : o.dst ≠ some t := hallt i o ho ((on_set hils).2 (.inl rfl))
          have hu := I.u t fun j oj hj hon => hallt j oj hj ((on_set hils).2 (.inr hon))
          cases hdo : o.dst with
          | none => exact hu
          | some d =>
            have : d ≠ t := fun e => hd1 (e ▸ hdo)
            simp only [putF, look_put, if_neg this]
            exact hu
    rw [← I.cw]
    cases hse : hsen E o with
    | false =>
      -- it may stand anywhere
      have hnb : barrier (bef ops) (ops.map (hsen E)) i = false := by
        cases hb : barrier (bef ops) (ops.map (hsen E)) i with
        | false => rfl
        | true => have := (barrier_spec hb).1; rw [hsi, hse] at this; cases this
      have hnn : isNew o = false := by
        cases hn : isNew o with
        | false => rfl
        | true => rw [new_hsen hn] at hse; cases hse
      have hpu := hs.pu i o hoi (by rw [Nat.zero_add]; exact hnb) hnn
      simp only [Nat.zero_add] at hpu
      have hstep := stepG_free (hp' := hp) (nx' := M p) hse (hpu.2.2.2.2 fr hag)
      refine pass true I.g hstep (next p hp I.pl (fun e he hb => ?_) (fun j n1 n2 n3 => ?_) fun x hx => I.ar x fun j n1 n2 n3 => hx j n1 (.inr n2) n3)
      · rw [← I.b e he hb]
        refine ⟨fun h => h.resolve_left fun hei => ?_, .inr⟩
        rw [hei, hnb] at hb; cases hb
      · refine I.al j n1 (n2.resolve_left fun hji => ?_) n3
        obtain ⟨_, _, oj, hoj, hnj⟩ := n1
        rw [hji, ho] at hoj; injection hoj with hoj
        rw [hoj, hnj] at hnn; cases hnn
    | true =>
    rw [hse] at hsi
    -- the objects are those of the lexical run
    have hbar : ∀ e, e < q → barrier (bef ops) (ops.map (hsen E)) e = true → (On listed e ↔ e < i) := by
      intro e he hb
      obtain ⟨_, hb1, hb2⟩ := barrier_spec hb
      rcases Nat.lt_trichotomy e i with hlt | rfl | hgt
      · exact ⟨fun _ => hlt, fun _ => hbefore e (hb2 i hlt (by unfold bef; omega) hsi)⟩
      · exact ⟨fun h => absurd h hnot, fun h => absurd h (Nat.lt_irrefl _)⟩
      · exact ⟨fun h => absurd h (hwait e (by omega) (hb1 i hgt hsi)), fun h => absurd h (by omega)⟩
    have hiff : ∀ e, e < q → barrier (bef ops) (ops.map (hsen E)) e = true → (e < p ↔ e < i) := fun e he hb => (I.b e he hb).symm.trans (hbar e he hb)
    have hHM := seq_same hql hs I.pl (Nat.le_of_lt hiq) hiff
    have hpd : ∀ j, Pend E ops q p j ↔ Pend E ops q i j := fun j => ⟨fun h e he hb => (h e he hb).trans (hiff e he hb), fun h e he hb => (h e he hb).trans (hiff e he hb).symm⟩
    have al : ∀ j, NewAt E ops q j → On listed j → Pend E ops q i j → hp[S j]? = some (O j) := fun j n1 n2 n3 => I.al j n1 n2 ((hpd j).2 n3)
    have ar : ∀ x, (∀ j, NewAt E ops q j → On listed j → Pend E ops q i j → S j ≠ x) → hp[x]? = (H i)[x]? := fun x hx => by
      rw [hHM.1]
      exact I.ar x fun j n1 n2 n3 => hx j n1 n2 ((hpd j).1 n3)
    have hG : Gam W0 X E.N c fr hp (M i) a := by rw [hHM.2]; exact I.g
    have pend1 : barrier (bef ops) (ops.map (hsen E)) i = false → ∀ j, Pend E ops q (i + 1) j ↔ Pend E ops q i j := fun hb j => by
      have h1 : ∀ e, e < q → barrier (bef ops) (ops.map (hsen E)) e = true → (e < i + 1 ↔ e < i) := fun e he hbe => by
        have : e ≠ i := fun h => by rw [h, hb] at hbe; cases hbe
        omega
      exact ⟨fun h e he hbe => (h e he hbe).trans (h1 e he hbe), fun h e he hbe => (h e he hbe).trans (h1 e he hbe).symm⟩
    have hsen_new : ∀ j, NewAt E ops q j → (ops.map (hsen E)).getD j false = true := fun j hj => by
      obtain ⟨_, _, oj, hoj, hnj⟩ := hj
      simp [List.getD, hoj, new_hsen hnj]
    have hb1' : ∀ e, e < q → barrier (bef ops) (ops.map (hsen E)) e = true → ((e = i ∨ On listed e) ↔ e < i + 1) := fun e he hb => by
      rw [hbar e he hb]; omega
    cases hb : barrier (bef ops) (ops.map (hsen E)) i with
    | true =>
      have hbs := hs.br i o hoi (by rw [Nat.zero_add]; exact hb)
      simp only [Nat.zero_add] at hbs
      obtain ⟨_, hb1, hb2⟩ := barrier_spec hb
      have hfl := flush listed hp i (Nat.le_of_lt hiq) (fun j hj hji => hbefore j (hb1 j hji (hsen_new j hj))) (fun j hj hij _ hon => by
        have hne : i ≠ j := fun e => by have := hj.2.1; rw [← e, hb] at this; cases this
        have hjl : j < ops.length := by have := hj.1; omega
        exact hwait j hjl (hb2 j (by omega) (by unfold bef; omega) (hsen_new j hj)) hon) al ar
      have hstep := hbs.2.2 fr hag
      rw [← hfl] at hstep
      refine pass false hG hstep (next (i + 1) (H (i + 1)) (by omega) hb1' (fun j n1 n2 n3 => ?_) fun x _ => rfl)
      exfalso
      have hij : i < j := (n3 i hiq hb).2 (by omega)
      rcases n2 with rfl | n2
      · omega
      · have hjl : j < ops.length := by have := n1.1; omega
        exact hwait j hjl (hb2 j hij (by unfold bef; omega) (hsen_new j n1)) n2
    | false =>
      cases hn : isNew o with
      | true =>
        have hni : NewAt E ops q i := ⟨hiq, hb, o, ho, hn⟩
        obtain ⟨e1, e2, e3, e4, hvoid, hrun⟩ := seq_new hql hs hiq hb ho hn
        obtain ⟨hobs, hev, hput⟩ := hrun fr hag
        have hsl : hp[S i]? = some .void := by
          rw [ar (S i) fun j n1 n2 _ h => slot_ne hql hs n1 hni (fun e => hnot (e ▸ n2)) h]
          exact void_at hvoid
        have hx := (obs_ok hG rfl _ hobs).1
        have hev' : evalOp E (opd fr) hp (S i) o.op = .new (V i) (O i) := new_hp hn hev
        obtain ⟨x, c', hex, hG', hsx⟩ := good_newAt hE hG hsl hev' hn hx
        obtain ⟨fr2, hG2, hfr2⟩ := hG'.putd hput hsx
        have hw : Region.wanted o (yielded ops.toArray a.tmps) = true := by
          unfold isNew at hn
          simp only [Bool.and_eq_true, Option.isNone_iff_eq_none] at hn
          simp [Region.wanted, hn.1]
        unfold wpOp
        simp only [ho']
        rw [if_pos hw]
        refine .inl ?_
        unfold Oper.wp
        rw [hex, Oper.upon_value]
        refine next (i + 1) (hp.set (S i) (O i)) (by omega) hb1' (fun j n1 n2 n3 => ?_) (fun y hy => ?_) _ _ ⟨c', fr2, hp.set (S i) (O i), M i, rfl, hG2, hfr2, rfl, e2.symm⟩
        · by_cases hji : j = i
          · subst hji
            simp [(List.getElem?_eq_some_iff.1 hsl).1]
          · rw [List.getElem?_set_ne (slot_ne hql hs hni n1 fun e => hji e.symm)]
            exact al j n1 (n2.resolve_left hji) ((pend1 hb j).1 n3)
        · have hyi : S i ≠ y := hy i hni (.inl rfl) ((pend1 hb i).2 fun e he hbe => Iff.rfl)
          rw [List.getElem?_set_ne hyi, e1]
          exact ar y fun j n1 n2 n3 => hy j n1 (.inr n2) ((pend1 hb j).2 n3)
      | false =>
        have hpu := hs.pu i o hoi (by rw [Nat.zero_add]; exact hb) hn
        simp only [Nat.zero_add] at hpu
        obtain ⟨e1, e2, e3, e4, hrun⟩ := hpu
        have halive : Alive (H i) hp := fun x hxl => by
          by_cases hxx : ∃ j, NewAt E ops q j ∧ On listed j ∧ Pend E ops q i j ∧ S j = x
          · exfalso
            obtain ⟨j, hj, hjon, hjp, rfl⟩ := hxx
            have hj0 := hj
            obtain ⟨_, hbj, oj, hoj, hnj⟩ := hj0
            have hv := (seq_new hql hs hj.1 hbj hoj hnj).2.2.2.2.1
            rw [← (seq_same hql hs (r := j) (s := i) (by have := hj.1; omega) (Nat.le_of_lt hiq) hjp).1] at hv
            rw [hv] at hxl
            cases hxl
          · rw [getAO_eq, getAO_eq, ar x fun j h1 h2 h3 h4 => hxx ⟨j, h1, h2, h3, h4⟩]
        have hstep := stepG_alive halive (hrun fr hag)
        rw [← e2] at hstep
        have hstep' : stepG E true false ops o fr hp (M i) (To o.dst (V i) fr hp (M (i + 1))) := by rw [e2] at hstep ⊢; exact hstep
        refine pass true hG hstep' (next (i + 1) hp (by omega) hb1' (fun j n1 n2 n3 => ?_) fun y hy => ?_)
        · rcases n2 with rfl | n2
          · obtain ⟨_, _, o', ho2, hno⟩ := n1
            rw [ho] at ho2; injection ho2 with ho2
            rw [ho2, hno] at hn; cases hn
          · exact al j n1 n2 ((pend1 hb j).1 n3)
        · rw [e1]
          exact ar y fun j n1 n2 n3 => hy j n1 (.inr n2) ((pend1 hb j).2 n3)

/-- Nothing is ready when all are there. -/
theorem ready_none {listed : Array Bool} (hsz : listed.size = ops.length) (h : ∀ i, i < ops.length → On listed i) : Region.ready .any ops.toArray listed = [] := by
  refine List.eq_nil_iff_forall_not_mem.2 fun i hi => ?_
  rw [mem_ready] at hi
  obtain ⟨h0, o, ho, _⟩ := hi
  have ho' : ops[i]? = some o := by simpa using ho
  have hil : i < ops.length := (List.getElem?_eq_some_iff.1 ho').1
  have hon := h i hil
  unfold On at hon
  have hls : i < listed.size := by omega
  simp [Array.getD, hls] at h0 hon
  rw [hon] at h0
  cases h0
theorem any_none {listed : Array Bool} {a : Act} {w : World} (hr : Region.ready .any ops.toArray listed = []) (hq : Qe .normal a w) : ∀ fuel, wpAny P .any ops.toArray Qe fuel listed a w
  | 0 => ⟨hr, hq⟩
  | fuel + 1 => ⟨fun _ => hq, fun i hi => by rw [hr] at hi; cases hi⟩

theorem op_next (hE : EnvOk P E) {i : Nat} {o : Oper} (ho : ops[i]? = some o) {c : Cx} {fr : Fr} {hp : List AO} {nx : Nat} {a : Act} (hG : Gam W0 X E.N c fr hp nx a) {dr sq : Bool} {K : Post} (hk : stepG E dr sq ops o fr hp nx K) {R : Act → World → Prop} (hR : ∀ a' w', Is W0 X E.N K a' w' → R a' w') : wpOp P ops.toArray Qe i R a c.w := by
  have hmain := stepG_ok (Qe := Qe) hE ops dr sq hG hk
  have ho' : ops.toArray[i]? = some o := by simpa using ho
  unfold wpOp
  simp only [ho']
  split
  · rename_i hw
    rw [if_pos hw] at hmain
    exact .inl (Oper.wp_mono hR hmain)
  · rename_i hw
    rw [if_neg hw] at hmain
    exact hR _ _ hmain
theorem is_ready (hd : drawOk ops = true) {listed : Array Bool} (hsz : listed.size = ops.length) {i : Nat} (hi : i < ops.length) (hno : ¬ On listed i) (hb : ∀ k, k < i → On listed k) : i ∈ Region.ready .any ops.toArray listed := by
  rw [mem_ready]
  have ho : ops[i]? = some (ops[i]'hi) := List.getElem?_eq_getElem hi
  refine ⟨?_, ops[i]'hi, by simp [ho], fun e he hbd => hb _ (drawOk_edge hd ho he hbd)⟩
  unfold On at hno
  have hls : i < listed.size := by omega
  simp [Array.getD, hls] at hno ⊢
  exact hno
theorem count_pos {listed : Array Bool} (hsz : listed.size = ops.length) {i : Nat} (hi : i < ops.length) (hno : ¬ On listed i) : 0 < listed.toList.count false := by
  refine List.count_pos_iff.2 (List.mem_of_getElem? (i := i) ?_)
  unfold On at hno
  have hls : i < listed.size := by omega
  simp [Array.getD, hls] at hno
  simp [hls, hno]
theorem count_next {listed : Array Bool} (hsz : listed.size = ops.length) {i : Nat} (hi : i < ops.length) (hno : ¬ On listed i) : (listed.setIfInBounds i true).toList.count false + 1 = listed.toList.count false := by
  rw [Array.toList_setIfInBounds]
  refine count_set _ i ?_
  unfold On at hno
  have hls : i < listed.size := by omega
  simp [Array.getD, hls] at hno
  simp [hls, hno]

/-- One operation is missing. -/
theorem last_ok (hE : EnvOk P E) (hd : drawOk ops = true) {j : Nat} {oj : Oper} (hoj : ops[j]? = some oj) {listed : Array Bool} (hsz : listed.size = ops.length) (hon : ∀ i, i < ops.length → i ≠ j → On listed i) (hoff : ¬ On listed j)
    {c : Cx} {fr : Fr} {hp : List AO} {nx : Nat} {a : Act} (hG : Gam W0 X E.N c fr hp nx a) {Q : Post} (hq : ∀ a' w', Is W0 X E.N Q a' w' → Qe .normal a' w') (r : runOps E ops [oj] fr hp nx Q) : ∀ fuel, listed.toList.count false ≤ fuel → wpAny P .any ops.toArray Qe fuel listed a c.w := by
  have hj : j < ops.length := (List.getElem?_eq_some_iff.1 hoj).1
  intro fuel hcnt
  cases fuel with
  | zero => have := count_pos hsz hj hoff; omega
  | succ fuel =>
    have hrd := is_ready hd hsz hj hoff (fun k hk => hon k (by omega) (by omega))
    refine ⟨fun h => (by rw [h] at hrd; cases hrd), fun k hk => ?_⟩
    rw [mem_ready] at hk
    obtain ⟨h0, o, ho, _⟩ := hk
    have ho' : ops[k]? = some o := by simpa using ho
    have hkl : k < ops.length := (List.getElem?_eq_some_iff.1 ho').1
    have hkj : k = j := Classical.byContradiction fun hne => by
      have := hon k hkl hne
      unfold On at this
      have hls : k < listed.size := by omega
      simp [Array.getD, hls] at h0 this
      rw [this] at h0; cases h0
    subst hkj
    refine op_next hE hoj hG r fun a' w' hI => ?_
    refine any_none (ready_none (by simp [hsz]) fun i hi => ?_) (hq a' w' hI) fuel
    rw [on_set (by omega)]
    by_cases h : i = k
    · exact .inl h
    · exact .inr (hon i hi h)

/-- The two last ones are missing. -/
theorem lasts_ok (hE : EnvOk P E) (hd : drawOk ops = true) {n : Nat} (hn : ops.length = n + 2) {s1 s2 : Oper} (h1 : ops[n]? = some s1) (h2 : ops[n + 1]? = some s2) {listed : Array Bool} (hsz : listed.size = ops.length) (hon : ∀ i, i < n → On listed i) (hoff : ∀ i, n ≤ i → ¬ On listed i)
    {c : Cx} {fr : Fr} {hp : List AO} {nx : Nat} {a : Act} (hG : Gam W0 X E.N c fr hp nx a) {Q : Post} (hq : ∀ a' w', Is W0 X E.N Q a' w' → Qe .normal a' w')
    (r1 : runOps E ops [s1, s2] fr hp nx Q) (r2 : runOps E ops [s2, s1] fr hp nx Q) : ∀ fuel, listed.toList.count false ≤ fuel → wpAny P .any ops.toArray Qe fuel listed a c.w := by
  intro fuel hcnt
  cases fuel with
  | zero => have := count_pos hsz (i := n) (by omega) (hoff n (Nat.le_refl _)); omega
  | succ fuel =>
    have hrd := is_ready hd hsz (i := n) (by omega) (hoff n (Nat.le_refl _)) hon
    refine ⟨fun h => (by rw [h] at hrd; cases hrd), fun k hk => ?_⟩
    rw [mem_ready] at hk
    obtain ⟨h0, o, ho, _⟩ := hk
    have ho' : ops[k]? = some o := by simpa using ho
    have hkl : k < ops.length := (List.getElem?_eq_some_iff.1 ho').1
    have hkn : n ≤ k := Classical.byContradiction fun hne => by
      have := hon k (by omega)
      unfold On at this
      have hls : k < listed.size := by omega
      simp [Array.getD, hls] at h0 this
      rw [this] at h0; cases h0
    have hc1 := count_next hsz hkl (hoff k hkn)
    have hkc : k = n ∨ k = n + 1 := by omega
    rcases hkc with rfl | rfl
    · refine op_next hE h1 hG r1 fun a' w' hI => ?_
      obtain ⟨c', fr', hp', nx', rfl, hG', hK⟩ := hI
      refine last_ok hE hd h2 (by simp [hsz]) (fun i hi hne => ?_) (fun h => ?_) hG' hq hK fuel (by omega)
      · rw [on_set (by omega)]
        by_cases h : i = k
        · exact .inl h
        · exact .inr (hon i (by omega))
      · rw [on_set (by omega)] at h
        rcases h with h | h
        · omega
        · exact hoff _ (by omega) h
    · refine op_next hE h2 hG r2 fun a' w' hI => ?_
      obtain ⟨c', fr', hp', nx', rfl, hG', hK⟩ := hI
      refine last_ok hE hd h1 (by simp [hsz]) (fun i hi hne => ?_) (fun h => ?_) hG' hq hK fuel (by omega)
      · rw [on_set (by omega)]
        by_cases h : i = n + 1
        · exact .inl h
        · exact .inr (hon i (by omega))
      · rw [on_set (by omega)] at h
        rcases h with h | h
        · omega
        · exact hoff _ (by omega) h

theorem tail2_ok {tab : List (List Nat)} {pre : List Oper} {s1 s2 : Oper} (h : tail2 tab ops = some (pre, s1, s2)) :
    ∃ n, ops.length = n + 2 ∧ pre = ops.take n ∧ ops[n]? = some s1 ∧ ops[n + 1]? = some s2 ∧ ∀ j, j < n → j ∈ tab.getD n [] ∧ j ∈ tab.getD (n + 1) [] := by
  unfold tail2 at h
  split at h
  · rename_i n hn
    split at h
    · rename_i x y hxy
      cases hb : (isStore x && isStore y && !(tab.getD (n + 1) []).contains n && ((List.range n).all fun j => (tab.getD n []).contains j && (tab.getD (n + 1) []).contains j)) with
      | false => rw [hb] at h; cases h
      | true =>
        rw [hb] at h
        simp only [cond_true, Option.some.injEq, Prod.mk.injEq] at h
        obtain ⟨h1, h2, h3⟩ := h
        subst h2 h3
        simp only [Bool.and_eq_true, List.all_eq_true] at hb
        refine ⟨n, hn, h1.symm, ?_, ?_, fun j hj => ?_⟩
        · have : (ops.drop n)[0]? = some x := by rw [hxy]; rfl
          simpa using this
        · have : (ops.drop n)[1]? = some y := by rw [hxy]; rfl
          simpa using this
        · have := hb.2 j (by simpa using hj)
          simpa using this
    · cases h
  · cases h

theorem voids_ok : ∀ (n : Nat) {hp : List AO} {K : List AO → Prop}, voids n hp K → K (hp ++ List.replicate n .void)
  | 0, hp, K, h => by
    have h' : K hp := h
    simpa using h'
  | n + 1, hp, K, h => by
    have := voids_ok n (snocK_ok hp h)
    simpa [List.replicate_succ] using this
theorem Gam.addVoid {N : Nat} {c : Cx} {fr : Fr} {hp : List AO} {nx : Nat} {a : Act} (h : Gam W0 X N c fr hp nx a) : ∃ c', c'.w = c.w ∧ Gam W0 X N c' fr (hp ++ [.void]) (nx + 1) a := by
  have key := h.add (w' := c.w) (ix := c.n) (n' := c.n + 1) (ln := 0) (k := noK) (lo := none) (v := .bool false) (hv := at0_bool false) (ob := .void) (fun _ => False) (.inl ⟨rfl, rfl, rfl⟩) (fun b hb => hb.elim) (Nat.le_refl _) (fun _ _ _ => rfl) rfl rfl rfl (fun g hg => hg.elim)
  obtain ⟨hG, _⟩ := key ⟨fun b hb => by rw [add_key] at hb; exact hb, updF_at _ _ _, updF_at _ _ _⟩
  exact ⟨c.add c.w c.n noK none (.bool false) 0 (c.n + 1) (at0_bool false), rfl, by rw [nx_len h .void]; exact hG⟩
theorem addVoids {N : Nat} : ∀ (n : Nat) {c : Cx} {fr : Fr} {hp : List AO} {nx : Nat} {a : Act}, Gam W0 X N c fr hp nx a → ∃ c', c'.w = c.w ∧ Gam W0 X N c' fr (hp ++ List.replicate n .void) (nx + n) a
  | 0, c, fr, hp, nx, a, h => ⟨c, rfl, by simpa using h⟩
  | n + 1, c, fr, hp, nx, a, h => by
    obtain ⟨c1, hw1, h1⟩ := h.addVoid
    obtain ⟨c2, hw2, h2⟩ := addVoids n h1
    refine ⟨c2, hw2.trans hw1, ?_⟩
    rw [show nx + (n + 1) = nx + 1 + n by omega]
    simpa [List.replicate_succ] using h2

theorem inv0 {oa : Array Oper} {S : Nat → Nat} {O : Nat → AO} {c : Cx} {fr : Fr} {hp : List AO} {nx : Nat} {a : Act} {q : Nat} (hG : Gam W0 X E.N c fr hp nx a) (hF : F 0 = fr) (hH : H 0 = hp) (hM : M 0 = nx) : Inv E W0 X E.N oa.toList V F H M S O q (Array.replicate oa.size false) a c.w c fr hp 0 := by
  have no : ∀ i, ¬ On (Array.replicate oa.size false) i := fun i hon => by
    unfold On at hon
    by_cases hi : i < oa.size <;> simp [Array.getD, hi] at hon
  exact ⟨by simp, fun i o ho hon => absurd hon (no i), rfl, by rw [hM]; exact hG, Nat.zero_le _, fun i _ => no i, fun e he hbe => ⟨fun hon => absurd hon (no e), fun h => absurd h (Nat.not_lt_zero _)⟩, fun i o t ho hon => absurd hon (no i), fun t _ => by rw [hF], fun j _ hon => absurd hon (no j), fun x _ => by rw [hH]⟩

/-- A region that draws. -/
theorem draw_any (hE : EnvOk P E) {oa : Array Oper} (hd : drawOk oa.toList = true) {c : Cx} {fr : Fr} {hp : List AO} {nx : Nat} {a : Act} {Q : Post} (h : Gam W0 X E.N c fr hp nx a)
    (hk : drawRun E oa.toList fr hp nx Q) (hq : ∀ a' w', Is W0 X E.N Q a' w' → Qe .normal a' w') : wpAny P .any oa Qe oa.size (Array.replicate oa.size false) a c.w := by
  have hmono : ∀ {l : List Oper} {fr : Fr} {hp : List AO} {nx : Nat} {K K' : Post}, (∀ fr hp nx, K fr hp nx → K' fr hp nx) → runOps E oa.toList l fr hp nx K → runOps E oa.toList l fr hp nx K' := fun hm hk => runOps_mono hm _ hk
  have hG := h
  unfold drawRun at hk
  split at hk
  · unfold runDraw0 at hk
    obtain ⟨c2, hw2, hG2⟩ := addVoids (news (bef oa.toList) (oa.toList.map (hsen E)) 0 oa.toList) hG
    obtain ⟨V, F, H, M, S, D, O, hF, hH, hM, hS, hD, hQ, hs⟩ := runDraw_seq _ 0 nx [] (voids_ok _ hk)
    simp only [Nat.zero_add] at hQ
    have := any_ok (P := P) (Qe := Qe) (W0 := W0) (X := X) hE hd (q := oa.toList.length) (Nat.le_refl _) (fun k h1 h2 => absurd h2 (by omega)) (by rw [List.take_length]; exact hs) hD
      (fun fuel listed a w _ hsz _ hon _ hc => by
        obtain ⟨c', rfl, hG'⟩ := hc
        exact any_none (ready_none hsz hon) (hq _ _ ⟨c', _, _, _, rfl, hG', hQ⟩) fuel)
      oa.size (Array.replicate oa.size false) a c2.w (by simp) ⟨c2, fr, _, 0, inv0 hG2 hF hH hM⟩
    rw [hw2] at this
    exact this
  · rename_i pre s1 s2 ht
    obtain ⟨n, hn, rfl, h1, h2, hall⟩ := tail2_ok ht
    unfold runDraw0 at hk
    obtain ⟨c2, hw2, hG2⟩ := addVoids (news (bef oa.toList) (oa.toList.map (hsen E)) 0 (oa.toList.take n)) hG
    obtain ⟨V, F, H, M, S, D, O, hF, hH, hM, hS, hD, hQ, hs⟩ := runDraw_seq _ 0 nx [] (voids_ok _ hk)
    have hln : (oa.toList.take n).length = n := by rw [List.length_take]; omega
    simp only [Nat.zero_add, hln] at hQ
    have r1 : runOps E oa.toList [s1, s2] (F n) (flushL (D n) (H n)) (M n) Q := hmono (fun fr1 hp1 nx1 hb => (both_out hb).2) hQ
    have r2 : runOps E oa.toList [s2, s1] (F n) (flushL (D n) (H n)) (M n) Q := by
      obtain ⟨fr1, hp1, nx1, hb⟩ := runOps_some [s1, s2] hQ
      obtain ⟨p1, p2⟩ := both_out hb
      refine hmono (fun fr2 hp2 nx2 hal => ?_) p1
      obtain ⟨rfl, rfl, rfl⟩ := alike_out hal
      exact p2
    have := any_ok (P := P) (Qe := Qe) (W0 := W0) (X := X) hE hd (q := n) (by omega) (fun k hk1 hk2 j hj => by
        rcases (by omega : k = n ∨ k = n + 1) with rfl | rfl
        · exact (hall j hj).1
        · exact (hall j hj).2) hs hD
      (fun fuel listed a w hcnt hsz _ hon hoff hc => by
        obtain ⟨c', rfl, hG'⟩ := hc
        exact lasts_ok hE hd hn h1 h2 hsz hon hoff hG' hq r1 r2 fuel hcnt)
      oa.size (Array.replicate oa.size false) a c2.w (by simp) ⟨c2, fr, _, 0, inv0 hG2 hF hH hM⟩
    rw [hw2] at this
    exact this
end

end Go.Proofs.Ytbgcgokikekmoaa.Eng

/- ENGINE 2, 10C: two operations of which it is not sure which one comes first: both ways. -/
namespace Go.Proofs.Ytbgcgokikekmoaa.Eng
set_option linter.unusedVariables false
set_option linter.unusedSimpArgs false
open Go Go.RowKit

abbrev rdy (ops : List Oper) (l : Array Bool) : List Nat := Region.ready .any ops.toArray l
/-- An order in which the operations may come. -/
def Val (ops : List Oper) : Nat → List Nat → Array Bool → Prop
  | 0, [], _ => True
  | 0, _ :: _, _ => False
  | _ + 1, [], l => rdy ops l = []
  | n + 1, r :: rest, l => r ∈ rdy ops l ∧ Val ops n rest (l.setIfInBounds r true)

theorem val_lin (ops : List Oper) : ∀ (fuel t : Nat) (listed : Array Bool), Val ops fuel (Region.linearise.go .any ops.toArray fuel t listed []) listed := by
  intro fuel
  induction fuel with
  | zero => intro t listed; simp [Region.linearise.go, Val]
  | succ fuel ih =>
    intro t listed
    simp only [Region.linearise.go]
    change Val ops (fuel + 1) (match (Region.ready .any ops.toArray listed)[t % (Region.ready .any ops.toArray listed).length]? with
      | some i => Region.linearise.go .any ops.toArray fuel (t / (Region.ready .any ops.toArray listed).length) (listed.setIfInBounds i true) [i]
      | none => [].reverse) listed
    cases hi : (Region.ready .any ops.toArray listed)[t % (Region.ready .any ops.toArray listed).length]? with
    | none =>
      show rdy ops listed = []
      unfold rdy
      cases hr : Region.ready .any ops.toArray listed with
      | nil => rfl
      | cons x xs =>
        rw [hr] at hi
        have hlt : t % (x :: xs).length < (x :: xs).length := Nat.mod_lt _ (by simp)
        simp at hi
        simp at hlt
        omega
    | some i =>
      simp only []
      rw [linearise_go_acc, List.reverse_singleton, List.singleton_append]
      exact ⟨List.mem_of_getElem? hi, ih _ _⟩
theorem any_val {P : Program} {ops : List Oper} {Q : Exit → Act → World → Prop} : ∀ (fuel : Nat) (order : List Nat) (listed : Array Bool) (a : Act) (w : World), wpAny P .any ops.toArray Q fuel listed a w → Val ops fuel order listed → wpOps P ops.toArray Q order a w
  | 0, [], _, _, _, h, _ => h.2
  | 0, _ :: _, _, _, _, _, hv => hv.elim
  | fuel + 1, [], _, _, _, h, hv => h.1 hv
  | fuel + 1, r :: rest, listed, a, w, h, hv => by
    rw [wpOps_cons]
    exact wpOp_mono (fun a' w' h' => any_val fuel rest _ a' w' h' hv.2) (h.2 r hv.1)
/-- In whatever order. -/
def AnyOrd (P : Program) (ops : List Oper) (Q : Exit → Act → World → Prop) (a : Act) (w : World) : Prop :=
  ∀ order, Val ops ops.length order (Array.replicate ops.length false) → wpOps P ops.toArray Q order a w
theorem anyOrd_region {P : Program} {oa : Array Oper} {Q : Exit → Act → World → Prop} {id : Nat} {a : Act} {w : World} (hm : P.follows .mixedOrders = true)
    (h : AnyOrd P oa.toList Q a { w with drawn := w.drawn + 1 }) : (Code.region id oa true).wp P Q a w :=
  wp_region_draw fun t => by
    simp only [Region.schedule, hm, Bool.true_or, if_true]
    show wpOps P oa Q (Region.linearise.go .any oa oa.size t (Array.replicate oa.size false) []) a _
    have := h _ (val_lin oa.toList oa.toList.length t _)
    simpa using this

/-- Other operations that do the same, at other places; tgt waits for src besides. -/
structure Like (ops ops' : List Oper) (σ ρ : Nat → Nat) (src tgt : Nat) : Prop where
  sr : ∀ j, σ (ρ j) = j
  rs : ∀ j, ρ (σ j) = j
  op : ∀ j, (ops'[j]? = none ∧ ops[σ j]? = none) ∨ ∃ o o', ops'[j]? = some o' ∧ ops[σ j]? = some o ∧ o'.dst = o.dst ∧ o'.op = o.op ∧ o'.type = o.type ∧ o'.pos = o.pos ∧ o'.guard = o.guard.map (fun g => (ρ g.1, g.2)) ∧
    (∀ e ∈ o.after, Region.binds .any e = true → ∃ e' ∈ o'.after, Region.binds .any e' = true ∧ e'.on = ρ e.on) ∧
    (∀ e' ∈ o'.after, Region.binds .any e' = true → (∃ e ∈ o.after, Region.binds .any e = true ∧ e'.on = ρ e.on) ∨ (σ j = tgt ∧ e'.on = ρ src))
def Rel (σ : Nat → Nat) (l l' : Array Bool) : Prop := ∀ j, l'[j]? = l[σ j]?
theorem Rel.getD {σ : Nat → Nat} {l l' : Array Bool} (h : Rel σ l l') (j : Nat) (b : Bool) : l'.getD j b = l.getD (σ j) b := by
  rw [Array.getD_eq_getD_getElem?, Array.getD_eq_getD_getElem?, h j]
section
variable {ops ops' : List Oper} {σ ρ : Nat → Nat} {src tgt : Nat} {l l' : Array Bool}
theorem Rel.back (L : Like ops ops' σ ρ src tgt) (h : Rel σ l l') (r : Nat) (b : Bool) : l'.getD (ρ r) b = l.getD r b := by rw [h.getD, L.sr]
theorem Rel.set (L : Like ops ops' σ ρ src tgt) (h : Rel σ l l') (r : Nat) : Rel σ (l.setIfInBounds r true) (l'.setIfInBounds (ρ r) true) := by
  intro j
  have hs : (l'[ρ r]?).isSome = (l[r]?).isSome := by rw [h, L.sr]
  rw [Array.getElem?_setIfInBounds, Array.getElem?_setIfInBounds]
  by_cases e : ρ r = j
  · subst e
    rw [if_pos rfl, L.sr, if_pos rfl]
    have h1 : (ρ r < l'.size) ↔ (r < l.size) := by
      have := congrArg (· = true) hs
      simpa using this
    by_cases h2 : r < l.size
    · rw [if_pos (h1.2 h2), if_pos h2]
    · rw [if_neg (fun h3 => h2 (h1.1 h3)), if_neg h2]
  · rw [if_neg e, if_neg (fun e' => e (by rw [e', L.rs]))]
    exact h j
theorem rdy_to (L : Like ops ops' σ ρ src tgt) (h : Rel σ l l') {r : Nat} (hr : r ∈ rdy ops l) (ht : r = tgt → l.getD src false = true) : ρ r ∈ rdy ops' l' := by
  rw [mem_ready] at hr ⊢
  obtain ⟨h1, o, ho, h2⟩ := hr
  refine ⟨by rw [h.back L]; exact h1, ?_⟩
  rcases L.op (ρ r) with ⟨_, e⟩ | ⟨o1, o', e1, e2, _, _, _, _, _, _, h3⟩
  · rw [L.sr] at e; simp at ho; rw [e] at ho; cases ho
  · rw [L.sr] at e2
    have : o1 = o := by simp at ho; rw [e2] at ho; injection ho
    subst this
    refine ⟨o', by simpa using e1, fun e' he' hb => ?_⟩
    rcases h3 e' he' hb with ⟨e, he, hbe, hon⟩ | ⟨htg, hon⟩
    · rw [hon, h.back L]; exact h2 e he hbe
    · rw [L.sr] at htg
      rw [hon, h.back L]; exact ht htg
theorem rdy_from (L : Like ops ops' σ ρ src tgt) (h : Rel σ l l') {j : Nat} (hr : j ∈ rdy ops' l') : σ j ∈ rdy ops l := by
  rw [mem_ready] at hr ⊢
  obtain ⟨h1, o', ho', h2⟩ := hr
  refine ⟨by rw [← h.getD]; exact h1, ?_⟩
  rcases L.op j with ⟨e, _⟩ | ⟨o, o1, e1, e2, _, _, _, _, _, h3, _⟩
  · simp at ho'; rw [e] at ho'; cases ho'
  · have : o1 = o' := by simp at ho'; rw [e1] at ho'; injection ho'
    subst this
    refine ⟨o, by simpa using e2, fun e he hb => ?_⟩
    obtain ⟨e', he', hbe', hon⟩ := h3 e he hb
    have := h2 e' he' hbe'
    rw [hon, h.back L] at this
    exact this
theorem rdy_nil (L : Like ops ops' σ ρ src tgt) (h : Rel σ l l') (hr : rdy ops l = []) : rdy ops' l' = [] := by
  cases h' : rdy ops' l' with
  | nil => rfl
  | cons x xs =>
    have := rdy_from L h (j := x) (by rw [h']; simp)
    rw [hr] at this; cases this
theorem getD_set_true {l : Array Bool} {i r : Nat} (h : l.getD i false = true) : (l.setIfInBounds r true).getD i false = true := by
  rw [Array.getD_eq_getD_getElem?] at *
  rw [Array.getElem?_setIfInBounds]
  split
  · split
    · rfl
    · rename_i e h2; subst e; rw [Array.getElem?_eq_none (by omega)] at h; cases h
  · exact h
theorem set_on {l : Array Bool} {i : Nat} (h : l.getD i true = false) : (l.setIfInBounds i true).getD i false = true := by
  rw [Array.getD_eq_getD_getElem?] at *
  rw [Array.getElem?_setIfInBounds, if_pos rfl]
  by_cases hi : i < l.size
  · rw [if_pos hi]; rfl
  · rw [Array.getElem?_eq_none (by omega)] at h; cases h
theorem val_follow (L : Like ops ops' σ ρ src tgt) : ∀ (n : Nat) (order : List Nat) (l l' : Array Bool), Rel σ l l' → l.getD src false = true → Val ops n order l → Val ops' n (order.map ρ) l'
  | 0, [], _, _, _, _, _ => trivial
  | 0, _ :: _, _, _, _, _, hv => hv.elim
  | n + 1, [], l, l', h, _, hv => rdy_nil L h hv
  | n + 1, r :: rest, l, l', h, hs, hv => ⟨rdy_to L h hv.1 (fun _ => hs), val_follow L n rest _ _ (h.set L r) (getD_set_true hs) hv.2⟩
theorem execOp_like {o o' : Oper} (h1 : o'.op = o.op) (h2 : o'.type = o.type) (ρ : Operand → Value) : execOp ρ o' = execOp ρ o := by
  unfold execOp
  rw [h1, h2]
theorem wpOp_like {P : Program} {Q : Exit → Act → World → Prop} (L : Like ops ops' σ ρ src tgt) {r : Nat} {a : Act} {w : World} {K K' : Act → World → Prop} (hK : ∀ a w, K' a w → K a w) (h : wpOp P ops'.toArray Q (ρ r) K' a w) : wpOp P ops.toArray Q r K a w := by
  have hy : ∀ g, yielded ops'.toArray a.tmps (ρ g) = yielded ops.toArray a.tmps g := fun g => by
    unfold yielded
    rcases L.op (ρ g) with ⟨e1, e2⟩ | ⟨o, o', e1, e2, hd, _⟩
    · rw [L.sr] at e2
      simp [e1, e2]
    · rw [L.sr] at e2
      simp [e1, e2, hd]
  unfold wpOp at *
  rcases L.op (ρ r) with ⟨e1, e2⟩ | ⟨o, o', e1, e2, hd, hop, hty, hpos, hg, _⟩
  · rw [L.sr] at e2
    simp only [List.getElem?_toArray, e1, e2] at h ⊢
    exact hK _ _ h
  · rw [L.sr] at e2
    simp only [List.getElem?_toArray, e1, e2] at h ⊢
    have hw : Region.wanted o' (yielded ops'.toArray a.tmps) = Region.wanted o (yielded ops.toArray a.tmps) := by
      unfold Region.wanted
      rw [hg]
      cases o.guard with
      | none => rfl
      | some g => simp only [Option.map_some, hy]
    have hwp : ∀ {K : Act → World → Prop}, o'.wp P a w K Q → o.wp P a w K Q := fun {K} h => by
      unfold Oper.wp at *
      rw [execOp_like hop hty] at h
      generalize (execOp a.eval o).run P w = q at *
      unfold Oper.upon at *
      rw [hd] at h
      exact h
    rw [hw] at h
    split
    · rename_i hw'
      rw [if_pos hw'] at h
      rcases h with h | ⟨h1, h2⟩
      · exact .inl (Oper.wp_mono hK (hwp h))
      · refine .inr ⟨?_, h2⟩
        unfold Oper.asks at *
        rw [execOp_like hop hty] at h1
        exact h1
    · rename_i hw'
      rw [if_neg hw', hd] at h
      exact hK _ _ h
theorem ops_like {P : Program} {Q : Exit → Act → World → Prop} (L : Like ops ops' σ ρ src tgt) : ∀ (order : List Nat) (a : Act) (w : World), wpOps P ops'.toArray Q (order.map ρ) a w → wpOps P ops.toArray Q order a w
  | [], _, _, h => h
  | r :: rest, a, w, h => by
    rw [List.map_cons, wpOps_cons] at h
    rw [wpOps_cons]
    exact wpOp_like L (fun a w h => ops_like L rest a w h) h
end
theorem val_split {ops o1 o2 : List Oper} {σ ρ : Nat → Nat} {i k : Nat} (hik : i ≠ k) (L1 : Like ops o1 id id i k) (L2 : Like ops o2 σ ρ k i) : ∀ (n : Nat) (order : List Nat) (l l1 l2 : Array Bool), Rel id l l1 → Rel σ l l2 → Val ops n order l → Val o1 n (order.map id) l1 ∨ Val o2 n (order.map ρ) l2
  | 0, [], _, _, _, _, _, _ => .inl trivial
  | 0, _ :: _, _, _, _, _, _, hv => hv.elim
  | n + 1, [], l, l1, l2, h1, h2, hv => .inl (rdy_nil L1 h1 hv)
  | n + 1, r :: rest, l, l1, l2, h1, h2, hv => by
    have hoff := (mem_ready.1 hv.1).1
    by_cases e1 : r = i
    · subst e1
      exact .inl ⟨rdy_to L1 h1 hv.1 (fun e => absurd e hik), val_follow L1 n rest _ _ (h1.set L1 r) (set_on hoff) hv.2⟩
    · by_cases e2 : r = k
      · subst e2
        exact .inr ⟨rdy_to L2 h2 hv.1 (fun e => absurd e.symm hik), val_follow L2 n rest _ _ (h2.set L2 r) (set_on hoff) hv.2⟩
      · rcases val_split hik L1 L2 n rest _ _ _ (h1.set L1 r) (h2.set L2 r) hv.2 with hv' | hv'
        · exact .inl ⟨rdy_to L1 h1 hv.1 (fun e => absurd e e2), hv'⟩
        · exact .inr ⟨rdy_to L2 h2 hv.1 (fun e => absurd e e1), hv'⟩

/-! ### The two lists -/
theorem blt_dec (a b : Nat) : Nat.blt a b = decide (a < b) := by
  rw [Bool.eq_iff_iff, Nat.blt_eq]; simp
theorem beq_dec (a b : Nat) : Nat.beq a b = decide (a = b) := by
  rw [Bool.eq_iff_iff]; simp
theorem ble_dec (a b : Nat) : Nat.ble a b = decide (a ≤ b) := by
  rw [Bool.eq_iff_iff]; simp
theorem bif_dec {p : Prop} [Decidable p] {α : Type} (x y : α) : (bif decide p then x else y) = if p then x else y := by
  by_cases h : p <;> simp [h]
theorem rotU_eq (i k j : Nat) : rotU i k j = if j < i then j else if j < k then j + 1 else if j = k then i else j := by
  unfold rotU; simp only [blt_dec, beq_dec, bif_dec]
theorem rotD_eq (i k j : Nat) : rotD i k j = if j < i then j else if j = i then k else if j ≤ k then j - 1 else j := by
  unfold rotD; simp only [blt_dec, beq_dec, ble_dec, bif_dec]
theorem binds_data (s : Nat) : Region.binds .any ⟨s, .data⟩ = true := rfl
theorem getElem_getD {ops : List Oper} {j : Nat} (h : j < ops.length) : ops[j]? = some (ops.getD j default) := by simp [List.getD, h]
theorem like1 {ops : List Oper} {i k : Nat} : Like ops (ops1 ops i k) id id i k := by
  refine ⟨fun _ => rfl, fun _ => rfl, fun j => ?_⟩
  by_cases hj : j < ops.length
  · refine .inr ⟨ops.getD j default, bif Nat.beq j k then waits i (ops.getD j default) else ops.getD j default, ?_, getElem_getD hj, ?_⟩
    · unfold ops1; rw [List.getElem?_map, List.getElem?_range hj]; rfl
    · have hg : ∀ g : Option (Nat × Bool), g = g.map fun g => (id g.1, g.2) := fun g => by cases g <;> rfl
      cases hb : Nat.beq j k with
      | false =>
        exact ⟨rfl, rfl, rfl, rfl, hg _, fun e he hb => ⟨e, he, hb, rfl⟩, fun e he hb => .inl ⟨e, he, hb, rfl⟩⟩
      | true =>
        refine ⟨rfl, rfl, rfl, rfl, hg _, fun e he hb => ⟨e, (by show e ∈ (waits i (ops.getD j default)).after; simp only [waits, Array.mem_def, List.mem_append]; exact .inl (Array.mem_def.1 he)), hb, rfl⟩, fun e he hb' => ?_⟩
        have he : e ∈ (waits i (ops.getD j default)).after := he
        simp only [waits, Array.mem_def, List.mem_append, List.mem_singleton] at he
        rcases he with he | rfl
        · exact .inl ⟨e, Array.mem_def.2 he, hb', rfl⟩
        · exact .inr ⟨Nat.eq_of_beq_eq_true hb, rfl⟩
  · refine .inl ⟨?_, List.getElem?_eq_none (by simp; omega)⟩
    unfold ops1; rw [List.getElem?_map, List.getElem?_eq_none (by simp; omega)]; rfl
theorem like2 {ops : List Oper} {i k : Nat} (hik : i < k) (hk : k < ops.length) : Like ops (ops2 ops i k) (rotU i k) (rotD i k) k i := by
  have hlt : ∀ j, (j < ops.length ↔ rotU i k j < ops.length) := fun j => by rw [rotU_eq]; split <;> (try split) <;> (try split) <;> omega
  refine ⟨fun j => ?_, fun j => ?_, fun j => ?_⟩
  · simp only [rotU_eq, rotD_eq]
    by_cases h1 : j < i
    · simp [h1]
    · by_cases h2 : j = i
      · subst h2; simp; omega
      · by_cases h3 : j ≤ k
        · simp only [if_neg h1, if_neg h2, if_pos h3]
          rw [if_neg (by omega), if_pos (by omega)]; omega
        · simp only [if_neg h1, if_neg h2, if_neg h3]
          rw [if_neg (by omega), if_neg (by omega)]
  · simp only [rotU_eq, rotD_eq]
    by_cases h1 : j < i
    · simp [h1]
    · by_cases h2 : j < k
      · simp only [if_neg h1, if_pos h2]
        rw [if_neg (by omega), if_neg (by omega), if_pos (by omega)]; omega
      · by_cases h3 : j = k
        · simp only [if_neg h1, if_neg h2, if_pos h3]
          rw [if_neg (by omega)]; simp; omega
        · simp only [if_neg h1, if_neg h2, if_neg h3]
          rw [if_neg (by omega), if_neg (by omega)]
  · by_cases hj : j < ops.length
    · refine .inr ⟨ops.getD (rotU i k j) default, bif Nat.beq j k then waits (rotD i k k) (relab (rotD i k) (ops.getD (rotU i k j) default)) else relab (rotD i k) (ops.getD (rotU i k j) default), ?_, getElem_getD ((hlt j).1 hj), ?_⟩
      · unfold ops2; rw [List.getElem?_map, List.getElem?_range hj]; rfl
      · generalize ops.getD (rotU i k j) default = o
        have hr : ∀ e ∈ o.after, Region.binds .any e = true → ∃ e' ∈ (relab (rotD i k) o).after, Region.binds .any e' = true ∧ e'.on = rotD i k e.on := fun e he hb => ⟨{ e with on := rotD i k e.on }, by simp only [relab, Array.mem_def, List.mem_map]; exact ⟨e, Array.mem_def.1 he, rfl⟩, hb, rfl⟩
        have hr' : ∀ e' ∈ (relab (rotD i k) o).after, Region.binds .any e' = true → ∃ e ∈ o.after, Region.binds .any e = true ∧ e'.on = rotD i k e.on := fun e' he hb => by
          simp only [relab, Array.mem_def, List.mem_map] at he
          obtain ⟨e, he, rfl⟩ := he
          exact ⟨e, Array.mem_def.2 he, hb, rfl⟩
        cases hb : Nat.beq j k with
        | false =>
          exact ⟨rfl, rfl, rfl, rfl, rfl, hr, fun e he hb => .inl (hr' e he hb)⟩
        | true =>
          refine ⟨rfl, rfl, rfl, rfl, rfl, fun e he hb => ?_, fun e he hb' => ?_⟩
          · obtain ⟨e', h1, h2, h3⟩ := hr e he hb
            exact ⟨e', (by show e' ∈ (waits (rotD i k k) (relab (rotD i k) o)).after; simp only [waits, Array.mem_def, List.mem_append]; exact .inl (Array.mem_def.1 h1)), h2, h3⟩
          · have he : e ∈ (waits (rotD i k k) (relab (rotD i k) o)).after := he
            simp only [waits, Array.mem_def, List.mem_append, List.mem_singleton] at he
            rcases he with he | rfl
            · exact .inl (hr' e (Array.mem_def.2 he) hb')
            · refine .inr ⟨?_, rfl⟩
              rw [Nat.eq_of_beq_eq_true hb, rotU_eq, if_neg (by omega), if_neg (by omega), if_pos rfl]
    · have hj' : ¬ rotU i k j < ops.length := fun h => hj ((hlt j).2 h)
      refine .inl ⟨?_, List.getElem?_eq_none (by omega)⟩
      unfold ops2; rw [List.getElem?_map, List.getElem?_eq_none (by simp; omega)]; rfl

theorem split_ord {P : Program} {ops : List Oper} {Q : Exit → Act → World → Prop} {a : Act} {w : World} {i k : Nat} (hik : i < k) (hk : k < ops.length) (h1 : AnyOrd P (ops1 ops i k) Q a w) (h2 : AnyOrd P (ops2 ops i k) Q a w) : AnyOrd P ops Q a w := by
  intro order hv
  have l1 : (ops1 ops i k).length = ops.length := by simp [ops1]
  have l2 : (ops2 ops i k).length = ops.length := by simp [ops2]
  have hlt : ∀ j, (j < ops.length ↔ rotU i k j < ops.length) := fun j => by rw [rotU_eq]; split <;> (try split) <;> (try split) <;> omega
  have hR : Rel (rotU i k) (Array.replicate ops.length false) (Array.replicate ops.length false) := fun j => by
    rw [Array.getElem?_replicate, Array.getElem?_replicate]
    by_cases h : j < ops.length
    · rw [if_pos h, if_pos ((hlt j).1 h)]
    · rw [if_neg h, if_neg (fun h' => h ((hlt j).2 h'))]
  rcases val_split (by omega) like1 (like2 hik hk) ops.length order _ _ _ (fun _ => rfl) hR hv with h | h
  · exact ops_like like1 order a w (h1 _ (by rw [l1]; exact h))
  · exact ops_like (like2 hik hk) order a w (h2 _ (by rw [l2]; exact h))

theorem findBad_ok {tab : List (List Nat)} {ops : List Oper} {i k : Nat} (h : findBad tab ops = some (i, k)) : i < k ∧ k < ops.length := by
  unfold findBad at h
  split at h
  · rename_i i' k' _
    cases hb : (Nat.blt i' k' && Nat.blt k' ops.length) with
    | false => rw [hb] at h; cases h
    | true =>
      rw [hb] at h
      simp only [cond_true, Option.some.injEq, Prod.mk.injEq] at h
      obtain ⟨rfl, rfl⟩ := h
      simpa [blt_dec] using hb
  · cases h

/-! ### Frames that say the same -/
theorem look_drop : ∀ (n : Nat) (f : Fr) (t : Nat), ¬ t ∈ takeN n f → look f t = look (dropN n f) t
  | 0, f, t, _ => by cases f <;> rfl
  | n + 1, [], t, _ => rfl
  | n + 1, (s, v) :: r, t, h => by
    simp only [takeN, List.mem_cons, not_or] at h
    simp only [look, dropN]
    rw [beq_ne (fun e => h.1 e.symm)]
    exact look_drop n r t h.2
theorem lookAll_ok : ∀ (l : List Nat) {f g : Fr}, lookAll f l = lookAll g l → ∀ t ∈ l, look f t = look g t
  | [], _, _, _, t, ht => by cases ht
  | s :: r, f, g, h, t, ht => by
    simp only [lookAll, List.cons.injEq] at h
    rcases List.mem_cons.1 ht with rfl | ht
    · exact h.1
    · exact lookAll_ok r h.2 t ht
theorem same_look {n : Nat} {f g : Fr} (h : (dropN n g, lookAll g (takeN n f ++ takeN n g)) = (dropN n f, lookAll f (takeN n f ++ takeN n g))) (t : Nat) : look f t = look g t := by
  injection h with h1 h2
  by_cases ht : t ∈ takeN n f ++ takeN n g
  · exact (lookAll_ok _ h2 t ht).symm
  · rw [List.mem_append, not_or] at ht
    rw [look_drop n f t ht.1, look_drop n g t ht.2, h1]

section
variable {P : Program} {E : Env} {W0 : World} {X : Bd} {Qe : Exit → Act → World → Prop}
theorem drawRun_some {ops : List Oper} {fr : Fr} {hp : List AO} {nx : Nat} {K : Post} (h : drawRun E ops fr hp nx K) : ∃ fr' hp' nx', K fr' hp' nx' := by
  unfold drawRun at h
  split at h
  · unfold runDraw0 at h
    obtain ⟨V, F, H, M, S, D, O, hF, hH, hM, hS, hD, hQ, hs⟩ := runDraw_seq _ 0 nx [] (voids_ok _ h)
    exact ⟨_, _, _, hQ⟩
  · unfold runDraw0 at h
    obtain ⟨V, F, H, M, S, D, O, hF, hH, hM, hS, hD, hQ, hs⟩ := runDraw_seq _ 0 nx [] (voids_ok _ h)
    obtain ⟨fr1, hp1, nx1, hb⟩ := runOps_some _ hQ
    exact ⟨_, _, _, (both_out hb).2⟩
theorem drawAll_some : ∀ (d : Nat) {ops : List Oper} {fr : Fr} {hp : List AO} {nx : Nat} {K : Post}, drawAll E d ops fr hp nx K → ∃ fr' hp' nx', K fr' hp' nx'
  | 0, _, _, _, _, _, h => drawRun_some h.2
  | d + 1, ops, fr, hp, nx, K, h => by
    unfold drawAll at h
    split at h
    · exact drawRun_some h.2
    · obtain ⟨fr1, hp1, nx1, hb⟩ := drawAll_some d h
      exact ⟨_, _, _, (both_out hb).2⟩
theorem drawAll_ok (hE : EnvOk P E) : ∀ (d : Nat) {ops : List Oper} {c : Cx} {fr : Fr} {hp : List AO} {nx : Nat} {a : Act} {Q : Post} {Qe : Exit → Act → World → Prop}, Gam W0 X E.N c fr hp nx a →
    drawAll E d ops fr hp nx Q → (∀ a' w', Is W0 X E.N Q a' w' → Qe .normal a' w') → AnyOrd P ops Qe a c.w
  | 0, ops, c, fr, hp, nx, a, Q, Qe, h, hk, hq => fun order hv => any_val _ order _ a _ (by
      have := draw_any (P := P) (Qe := Qe) hE (oa := ops.toArray) hk.1 h hk.2 hq
      simpa using this) hv
  | d + 1, ops, c, fr, hp, nx, a, Q, Qe, h, hk, hq => by
    unfold drawAll at hk
    split at hk
    · exact fun order hv => any_val _ order _ a _ (by
        have := draw_any (P := P) (Qe := Qe) hE (oa := ops.toArray) hk.1 h hk.2 hq
        simpa using this) hv
    · rename_i i k hb
      obtain ⟨hik, hkl⟩ := findBad_ok hb
      refine split_ord hik hkl (drawAll_ok hE d h hk fun a' w' hI => hq a' w' ?_) ?_
      · obtain ⟨c', fr', hp', nx', e, hG, hK⟩ := hI
        exact ⟨c', fr', hp', nx', e, hG, (both_out hK).2⟩
      · obtain ⟨fr1, hp1, nx1, hb⟩ := drawAll_some d hk
        obtain ⟨p1, p2⟩ := both_out hb
        refine drawAll_ok hE d h p1 fun a' w' hI => hq a' w' ?_
        obtain ⟨c', fr', hp', nx', e, hG, hK⟩ := hI
        obtain ⟨e1, rfl, rfl⟩ := alike_out hK
        exact ⟨c', fr1, hp', nx', e, hG.congr fun t => same_look e1 t, p2⟩
end

end Go.Proofs.Ytbgcgokikekmoaa.Eng
