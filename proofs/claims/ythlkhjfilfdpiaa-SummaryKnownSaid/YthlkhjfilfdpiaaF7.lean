/- ENGINE 2, 7: a list of operations; a region; a code; a function. -/
import Derived.Test.YthlkhjfilfdpiaaF6
namespace Go.Proofs.Ythlkhjfilfdpiaa.Eng
set_option linter.unusedVariables false
set_option linter.unusedSimpArgs false
open Go Go.RowKit

/-- Somewhere on the way: a frame of which Q speaks. -/
def Is (W0 : World) (X : Bd) (N : Nat) (Q : Post) (a : Act) (w : World) : Prop := ∃ c fr hp nx, c.w = w ∧ Gam W0 X N c fr hp nx a ∧ Q fr hp nx

section
variable {P : Program} {E : Env} {W0 : World} {X : Bd} {c : Cx} {fr : Fr} {hp : List AO} {nx : Nat} {a : Act} {o : Oper} {ρ : Operand → AV} {Qe : Exit → Act → World → Prop}

theorem Gam.putd (h : Gam W0 X E.N c fr hp nx a) {d : Option Nat} {v : AV} {x : Value} {K : Fr → Prop} (hk : putK E.N fr d v K) (hv : sat v c [x]) : ∃ fr', Gam W0 X E.N c fr' hp nx (a.put d x) ∧ K fr' := by
  rcases putK_ok hk with ⟨i, rfl, hi, hK⟩ | ⟨rfl, hK⟩
  · exact ⟨_, h.put hi hv, hK⟩
  · exact ⟨fr, h, hK⟩

theorem gd_sat {b : Bool} {v : AV} {x : Value} (hb : b = true) (h : sat v c [x]) : sat (.gd b v) c [x] := ⟨x, rfl, fun _ => h, fun hf => by rw [hb] at hf; cases hf⟩
theorem gd_skip {b : Bool} {v : AV} (hb : b = false) : sat (.gd b v) c [undef] := ⟨undef, rfl, fun ht => absurd (hb.symm.trans ht) (by simp), fun _ => rfl⟩

/-- An operation that is carried out. -/
theorem exec_ok (h : Gam W0 X E.N c fr hp nx a) (dr : Bool) (g : Option Bool) (hg : g.getD true = true) (r : R) (hr : GoodR P W0 X E.N c fr hp nx a o r) {K : Post} (hk : stepR E.N dr fr hp nx o.dst g r K) : o.wp P a c.w (Is W0 X E.N K) Qe := by
  have okv : ∀ v, OKv P c a o v → (match g with | none => putK E.N fr o.dst v fun fr => K fr hp nx | some b => putK E.N fr o.dst (.gd b v) fun fr => K fr hp nx) → o.wp P a c.w (Is W0 X E.N K) Qe := by
    rintro v ⟨x, hrun, hs⟩ hput
    unfold Oper.wp
    rw [hrun, Oper.upon_value]
    cases g with
    | none =>
      obtain ⟨fr', hG, hK⟩ := h.putd hput hs
      exact ⟨c, fr', hp, nx, rfl, hG, hK⟩
    | some b =>
      obtain ⟨fr', hG, hK⟩ := h.putd hput (gd_sat hg hs)
      exact ⟨c, fr', hp, nx, rfl, hG, hK⟩
  cases r with
  | no => exact Stuck.out hk
  | ok v =>
    have hk' := force_ok v hk
    exact okv v hr (by cases g <;> exact hk')
  | ob p v =>
    have hk' := force_ok v hk
    cases g with
    | none => exact okv v (hr hk'.1) hk'.2
    | some b => exact okv v (hr (hk'.1 hg)) hk'.2
  | call r =>
    have hk' := force_ok r.res hk
    have fin : r.pre → (match g with | none => putK E.N fr o.dst r.res fun fr => K fr hp nx | some b => putK E.N fr o.dst (.gd b r.res) fun fr => K fr hp nx) → o.wp P a c.w (Is W0 X E.N K) Qe := by
      intro hpre hput
      obtain ⟨f, args, hrun, hcall⟩ := hr hpre
      unfold Oper.wp
      rw [hrun, Oper.upon_enter]
      refine hcall.mono fun e w' he => ?_
      obtain ⟨x, rfl, hb, hs⟩ := he
      have hG := h.below hb
      cases g with
      | none =>
        obtain ⟨fr', hG', hK⟩ := hG.putd hput hs
        exact ⟨c.to w', fr', hp, nx, rfl, hG', hK⟩
      | some b =>
        obtain ⟨fr', hG', hK⟩ := hG.putd hput (gd_sat hg hs)
        exact ⟨c.to w', fr', hp, nx, rfl, hG', hK⟩
    cases g with
    | none => exact fin hk'.1 hk'.2
    | some b => exact fin (hk'.1 hg) hk'.2
  | new v ob =>
    cases g with
    | some b => cases dr <;> exact Stuck.out hk
    | none =>
      cases dr with
      | true => exact Stuck.out hk
      | false =>
        have hk2 : forceO ob (fun o' => snocK hp o' fun hp => putK E.N fr o.dst v fun fr => K fr hp (nx + 1)) := hk
        have h1 := snocK_ok hp (forceO_ok ob hk2)
        obtain ⟨x, c', hrun, hG, hs⟩ := hr
        unfold Oper.wp
        rw [hrun, Oper.upon_value]
        obtain ⟨fr', hG', hK⟩ := hG.putd h1 hs
        exact ⟨c', fr', _, _, rfl, hG', hK⟩
  | set v i ob =>
    cases g with
    | some b => cases dr <;> exact Stuck.out hk
    | none =>
      cases dr with
      | true => exact Stuck.out hk
      | false =>
        have hk2 : forceO ob (fun o' => setK hp i o' fun hp => putK E.N fr o.dst v fun fr => K fr hp nx) := hk
        obtain ⟨hi, h1⟩ := setK_ok hp (forceO_ok ob hk2)
        obtain ⟨c', hrun, hG, rfl⟩ := hr hi
        unfold Oper.wp
        rw [hrun, Oper.upon_skip]
        obtain ⟨fr', hG', hK⟩ := hG.putd h1 ⟨undef, rfl⟩
        exact ⟨c', fr', _, _, rfl, hG', hK⟩

  | upd v i ob =>
    cases g with
    | some b => cases dr <;> exact Stuck.out hk
    | none =>
      cases dr with
      | true => exact Stuck.out hk
      | false =>
        have hk2 : forceO ob (fun o' => setK hp i o' fun hp => putK E.N fr o.dst v fun fr => K fr hp nx) := hk
        obtain ⟨hi, h1⟩ := setK_ok hp (forceO_ok ob hk2)
        obtain ⟨x, c', hrun, hG, hs⟩ := hr hi
        unfold Oper.wp
        rw [hrun, Oper.upon_value]
        obtain ⟨fr', hG', hK⟩ := hG.putd h1 hs
        exact ⟨c', fr', _, _, rfl, hG', hK⟩

  | act m p v hp' =>
    cases g with
    | some b => cases dr <;> exact Stuck.out hk
    | none =>
      cases dr with
      | true => exact Stuck.out hk
      | false =>
        have hk2 : force v (fun v => forceH hp' fun hp' => p ∧ putK E.N fr o.dst v fun fr => K fr hp' (lenO hp')) := hk
        have h1 := forceH_ok hp' (force_ok v hk2)
        obtain ⟨hp1, h2⟩ := h1
        rw [lenO_eq] at h2
        match m, hr with
        | 0, hr =>
          obtain ⟨c', hrun, hG, rfl⟩ := hr hp1
          unfold Oper.wp
          rw [hrun, Oper.upon_skip]
          obtain ⟨fr', hG', hK⟩ := hG.putd h2 ⟨undef, rfl⟩
          exact ⟨c', fr', _, _, rfl, hG', hK⟩
        | 1, hr =>
          obtain ⟨x, c', hrun, hG, hs⟩ := hr hp1
          unfold Oper.wp
          rw [hrun, Oper.upon_value]
          obtain ⟨fr', hG', hK⟩ := hG.putd h2 hs
          exact ⟨c', fr', _, _, rfl, hG', hK⟩
        | m + 2, hr =>
          obtain ⟨f, args, hrun, hcall⟩ := hr hp1
          unfold Oper.wp
          rw [hrun, Oper.upon_enter]
          refine hcall.mono fun e w' he => ?_
          obtain ⟨x, c', rfl, rfl, hG, hs⟩ := he
          obtain ⟨fr', hG', hK⟩ := hG.putd h2 hs
          exact ⟨c', fr', _, _, rfl, hG', hK⟩

/-- An operation that is passed over. -/
theorem skip_ok (h : Gam W0 X E.N c fr hp nx a) (dr : Bool) (b : Bool) (hb : b = false) (r : R) {K : Post} (hk : stepR E.N dr fr hp nx o.dst (some b) r K) : Is W0 X E.N K (a.put o.dst undef) c.w := by
  have fin : ∀ v, putK E.N fr o.dst (.gd b v) (fun fr => K fr hp nx) → Is W0 X E.N K (a.put o.dst undef) c.w := fun v hput => by
    obtain ⟨fr', hG, hK⟩ := h.putd hput (gd_skip hb)
    exact ⟨c, fr', hp, nx, rfl, hG, hK⟩
  cases r with
  | no => exact Stuck.out hk
  | ok v => exact fin v (force_ok v hk)
  | ob p v => exact fin v (force_ok v hk).2
  | call r => exact fin r.res (force_ok r.res hk).2
  | new v ob => cases dr <;> exact Stuck.out hk
  | set v i ob => cases dr <;> exact Stuck.out hk
  | upd v i ob => cases dr <;> exact Stuck.out hk
  | act m p v hp' => cases dr <;> exact Stuck.out hk

/-- A pick. -/
theorem pick_ok {g x : Bool} (hg : g = true) {p q : AV} {vp vq : Value} (hp' : sat p c [vp]) (hq : sat q c [vq]) {K : Bool → Prop} (hk : pickB g x p q K) : ∃ y, K y ∧ (if x = true then vp else vq) = .bool y := by
  have val : ∀ {b : Bool} {v : Value}, sat (.v (.bool b)) c [v] → v = .bool b := fun h => by simpa [sat] using h
  have gval : ∀ {d b : Bool} {v : Value}, sat (.gd d (.v (.bool b))) c [v] → d = true → v = .bool b := fun h hd => by
    obtain ⟨z, hz, h1, _⟩ := h
    simp only [List.cons.injEq, and_true] at hz
    subst hz
    exact val (h1 hd)
  unfold pickB at hk
  split at hk
  · refine ⟨_, hk, ?_⟩
    cases x <;> simp [val hp', val hq]
  · refine ⟨_, hk.2, ?_⟩
    cases x
    · simp [val hq]
    · simp [gval hp' (hk.1 hg rfl)]
  · refine ⟨_, hk.2, ?_⟩
    cases x
    · simp [gval hq (hk.1 hg rfl)]
    · simp [val hp']
  · refine ⟨_, hk.2.2, ?_⟩
    cases x
    · simp [gval hq (hk.2.1 hg rfl)]
    · simp [gval hp' (hk.1 hg rfl)]
  · exact hk.elim
theorem pick_K {g x : Bool} {p q : AV} {K : Bool → Prop} (hk : pickB g x p q K) : ∃ y, K y := by
  unfold pickB at hk
  split at hk
  · exact ⟨_, hk⟩
  · exact ⟨_, hk.2⟩
  · exact ⟨_, hk.2⟩
  · exact ⟨_, hk.2.2⟩
  · exact hk.elim

theorem run_pick {x p q : Operand} (hop : o.op = .pick x p q) {b : Bool} (hb : a.eval x = .bool b) (w : World) : (execOp a.eval o).run P w = .ok (.value (if b = true then a.eval p else a.eval q)) w := by
  unfold execOp; rw [hop]
  simp only [hb, asBool, Sem.run_bind, Sem.run_pure, Result.andThen_ok]

/-- One operation, its guard's Bool known: carried out, or passed over. -/
theorem stepO_exec (hE : EnvOk P E) (h : Gam W0 X E.N c fr hp nx a) (dr : Bool) (g : Option Bool) (hg : g.getD true = true) {K : Post} (hk : stepO E dr fr hp nx o g K) : o.wp P a c.w (Is W0 X E.N K) Qe := by
  unfold stepO at hk
  split at hk
  · rename_i x p q hop
    split at hk
    · rename_i b hb
      have ho : (∀ y ∈ [x], sat (opd fr y) c [a.eval y]) ∧ pickO E.N fr hp nx o.dst g b (raw fr p) (raw fr q) K := by
        unfold obsO at hk
        cases g with
        | none => exact obs_ok h rfl _ hk
        | some g => exact obs_ok h hg _ hk
      have hx := ho.1 x (by simp)
      rw [hb] at hx
      have hxv : a.eval x = .bool b := by simpa [sat] using hx
      have hpk := ho.2
      unfold pickO at hpk
      unfold Oper.wp
      rw [run_pick hop hxv, Oper.upon_value]
      cases g with
      | none =>
        obtain ⟨y, hy, e⟩ := pick_ok rfl (raw_ok h p) (raw_ok h q) hpk
        rw [e]
        obtain ⟨fr', hG, hK⟩ := h.putd hy (rfl : sat (.v (.bool y)) c [.bool y])
        exact ⟨c, fr', hp, nx, rfl, hG, hK⟩
      | some g =>
        obtain ⟨y, hy, e⟩ := pick_ok hg (raw_ok h p) (raw_ok h q) hpk
        rw [e]
        obtain ⟨fr', hG, hK⟩ := h.putd hy (gd_sat hg (rfl : sat (.v (.bool y)) c [.bool y]))
        exact ⟨c, fr', hp, nx, rfl, hG, hK⟩
    · exact hk.elim
  · have ho : (∀ y ∈ o.op.operands.toList, sat (opd fr y) c [a.eval y]) ∧ stepR E.N dr fr hp nx o.dst g (evalOp E (opd fr) hp nx o.op) K := by
      unfold obsO at hk
      cases g with
      | none => exact obs_ok h rfl _ hk
      | some g => exact obs_ok h hg _ hk
    exact exec_ok h dr g hg _ (eval_good hE h o.op rfl ho.1) ho.2

theorem stepO_skip (h : Gam W0 X E.N c fr hp nx a) (dr : Bool) (b : Bool) (hb : b = false) {K : Post} (hk : stepO E dr fr hp nx o (some b) K) : Is W0 X E.N K (a.put o.dst undef) c.w := by
  unfold stepO at hk
  split at hk
  · split at hk
    · have hpk := obs_K _ hk
      unfold pickO at hpk
      obtain ⟨y, hy⟩ := pick_K hpk
      obtain ⟨fr', hG, hK⟩ := h.putd hy (gd_skip hb)
      exact ⟨c, fr', hp, nx, rfl, hG, hK⟩
    · exact hk.elim
  · exact skip_ok h dr b hb _ (obs_K _ hk)

theorem dstAt_ok : ∀ (l : List Oper) (j : Nat) {d : Nat}, dstAt l j = some d → (l[j]?).bind (·.dst) = some d
  | o :: r, 0, d, h => by simpa [dstAt] using h
  | o :: r, j + 1, d, h => by simpa [dstAt] using dstAt_ok r j h

/-- The guard's Bool is what the machine reads. -/
theorem guard_ok (h : Gam W0 X E.N c fr hp nx a) {all : List Oper} {j d : Nat} {want : Bool} (hgd : o.guard = some (j, want)) (hd : dstAt all j = some d) {K : Bool → Prop} (hk : guardOf fr d want K) :
    ∃ g, K g ∧ Region.wanted o (yielded all.toArray a.tmps) = g := by
  have hy : yielded all.toArray a.tmps j = match a.tmps[d]? with | some (.bool b) => some b | _ => none := by
    have := dstAt_ok all j hd
    unfold yielded
    simp only [List.getElem?_toArray, this, Option.bind_some]
    generalize a.tmps[d]? = q
    cases q with
    | none => rfl
    | some v => cases v <;> rfl
  have hget : ∀ v : Value, v ≠ undef → a.tmps.getD d undef = v → a.tmps[d]? = some v := fun v hv he => by
    by_cases hlt : d < a.tmps.size
    · simp [Array.getD, hlt] at he
      simp [hlt, he]
    · simp [Array.getD, hlt] at he
      exact absurd he.symm hv
  have hf := h.f d
  unfold guardOf at hk
  unfold Region.wanted
  rw [hgd]
  simp only [hy]
  split at hk
  · rename_i b e
    rw [e] at hf
    have hv : a.tmps.getD d undef = .bool b := by simpa [sat] using hf
    rw [hget _ (by simp [undef]) hv]
    exact ⟨_, hk, by simp⟩
  · rename_i g' b e
    rw [e] at hf
    obtain ⟨y, hy', h1, h2⟩ := hf
    have hyv : a.tmps.getD d undef = y := by simpa using hy'
    cases g' with
    | true =>
      have hb : y = .bool b := by simpa [sat] using h1 rfl
      rw [hget _ (by simp [undef]) (hyv.trans hb)]
      exact ⟨_, hk, by simp⟩
    | false =>
      have hu := h2 rfl
      refine ⟨_, hk, ?_⟩
      have : (match a.tmps[d]? with | some (Value.bool b) => some b | _ => none) = none := by
        rw [hu] at hyv
        by_cases hlt : d < a.tmps.size
        · simp [Array.getD, hlt] at hyv
          simp [hlt, hyv, undef]
        · simp [hlt]
      rw [this]; simp
  · exact hk.elim

/-- An operation behind its guard, carried out or passed over. -/
theorem stepS_exec (hE : EnvOk P E) (h : Gam W0 X E.N c fr hp nx a) (dr : Bool) {K : Post} (hk : stepS E dr fr hp nx o true K) : o.wp P a c.w (Is W0 X E.N K) Qe := by
  unfold stepS at hk
  cases hm : makesO o with
  | true => rw [hm] at hk; exact stepO_exec hE h dr none rfl hk.2
  | false => rw [hm] at hk; exact stepO_exec hE h dr (some true) rfl hk
theorem stepS_skip (h : Gam W0 X E.N c fr hp nx a) (dr : Bool) {K : Post} (hk : stepS E dr fr hp nx o false K) : Is W0 X E.N K (a.put o.dst undef) c.w := by
  unfold stepS at hk
  cases hm : makesO o with
  | true => rw [hm] at hk; exact absurd hk.1 (by simp)
  | false => rw [hm] at hk; exact stepO_skip h dr false rfl hk
theorem stepG_ok (hE : EnvOk P E) (all : List Oper) (dr : Bool) (h : Gam W0 X E.N c fr hp nx a) {K : Post} (hk : stepG E dr all o fr hp nx K) :
    if Region.wanted o (yielded all.toArray a.tmps) then o.wp P a c.w (Is W0 X E.N K) Qe else Is W0 X E.N K (a.put o.dst undef) c.w := by
  unfold stepG at hk
  cases hgd : o.guard with
  | none =>
    simp only [hgd] at hk
    rw [if_pos (by simp [Region.wanted, hgd])]
    exact stepO_exec hE h dr none rfl hk
  | some p =>
    obtain ⟨j, want⟩ := p
    simp only [hgd] at hk
    cases hd : dstAt all j with
    | none => simp [hd] at hk
    | some d =>
      simp only [hd] at hk
      obtain ⟨g, hK, hw⟩ := guard_ok h hgd hd hk
      rw [hw]
      cases hgb : g with
      | true =>
        rw [if_pos rfl]
        subst hgb
        exact stepS_exec hE h dr hK
      | false =>
        rw [if_neg (by simp)]
        subst hgb
        exact stepS_skip h dr hK

/-- A plain region's operations. -/
theorem runOps_ok (hE : EnvOk P E) (all : List Oper) : ∀ (l : List Oper) {c : Cx} {fr : Fr} {hp : List AO} {nx : Nat} {a : Act} {Q : Post}, runOps E all l fr hp nx Q → Gam W0 X E.N c fr hp nx a →
    (∀ a' w', Is W0 X E.N Q a' w' → Qe .normal a' w') → wpList P all.toArray Qe l a c.w
  | [], c, fr, hp, nx, a, Q, hk, h, hq => hq a c.w ⟨c, fr, hp, nx, rfl, h, hk⟩
  | o :: rest, c, fr, hp, nx, a, Q, hk, h, hq => by
    have next : ∀ a' w', Is W0 X E.N (fun fr hp nx => runOps E all rest fr hp nx Q) a' w' → wpList P all.toArray Qe rest a' w' := by
      rintro a' w' ⟨c', fr', hp', nx', rfl, hG, hK⟩
      exact runOps_ok hE all rest hK hG hq
    have hs := stepG_ok (Qe := Qe) hE all false h hk
    unfold wpList
    split
    · rename_i hw
      rw [if_pos hw] at hs
      exact .inl (Oper.wp_mono next hs)
    · rename_i hw
      rw [if_neg hw] at hs
      exact next _ _ hs
end

end Go.Proofs.Ythlkhjfilfdpiaa.Eng
