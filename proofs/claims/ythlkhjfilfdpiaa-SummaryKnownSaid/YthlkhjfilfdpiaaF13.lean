/- ENGINE 2, 13: a run says more of more; tables of types, of contracts. -/
import Derived.Test.YthlkhjfilfdpiaaF12
namespace Go.Proofs.Ythlkhjfilfdpiaa.Eng
set_option linter.unusedVariables false
set_option linter.unusedSimpArgs false
open Go Go.RowKit

section
variable {E : Env} {N : Nat} {K K' : Post}
theorem flushK_mono : ∀ (pd : List (Nat × AO)) {hp : List AO} {K K' : List AO → Prop}, (∀ hp, K hp → K' hp) → flushK pd hp K → flushK pd hp K'
  | [], _, _, _, hm, h => hm _ h
  | (i, o) :: r, hp, K, K', hm, h => setK_mk hp (setK_ok hp h).1 (flushK_mono r hm (setK_ok hp h).2)
theorem voids_mono : ∀ (n : Nat) {hp : List AO} {K K' : List AO → Prop}, (∀ hp, K hp → K' hp) → voids n hp K → voids n hp K'
  | 0, _, _, _, hm, h => hm _ h
  | n + 1, hp, K, K', hm, h => snocK_mk hp (voids_mono n hm (snocK_ok hp h))
theorem slotO_mono {fr : Fr} {hp : List AO} {sl : Nat} {o : Oper} {K K' : Fr → AO → Prop} (hm : ∀ fr ob, K fr ob → K' fr ob) (h : slotO E fr hp sl o K) : slotO E fr hp sl o K' := by
  unfold slotO at h ⊢
  split
  · rename_i v ob e1 e2
    simp only [e1, e2] at h
    refine obs_loc _ (fun _ _ => rfl) h fun hk => ?_
    refine force_swap v hk (forceO_swap ob (force_ok v hk) ?_)
    exact putK_mono (forceO_ok ob (force_ok v hk)) fun fr hk => hm _ _ hk
  · rename_i hne
    split at h
    · rename_i v ob e1 e2; exact absurd e2 (hne v ob e1)
    · exact h
theorem runDraw_mono {all : List Oper} {tab : List (List Nat)} {hs : List Bool} (hm : ∀ fr hp nx, K fr hp nx → K' fr hp nx) : ∀ (l : List Oper) (i sl : Nat) (pd : List (Nat × AO)) {fr : Fr} {hp : List AO} {nx : Nat}, runDraw E all tab hs i l sl pd fr hp nx K → runDraw E all tab hs i l sl pd fr hp nx K'
  | [], _, _, pd, _, _, _, h => flushK_mono pd (fun _ h => hm _ _ _ h) h
  | o :: r, i, sl, pd, fr, hp, nx, h => by
    unfold runDraw at h ⊢
    cases hb : barrier tab hs i with
    | true =>
      rw [hb] at h
      exact flushK_mono pd (fun hp h => stepG_mono (fun _ _ _ h => runDraw_mono hm r (i + 1) sl [] h) h) h
    | false =>
      rw [hb] at h
      simp only [cond_false] at h ⊢
      cases hn : isNew o with
      | true =>
        rw [hn] at h
        exact slotO_mono (fun _ _ h => runDraw_mono hm r (i + 1) (sl + 1) _ h) h
      | false =>
        rw [hn] at h
        exact stepG_mono (fun _ _ _ h => runDraw_mono hm r (i + 1) sl pd h) h
theorem runDraw0_mono {all : List Oper} {tab : List (List Nat)} {hs : List Bool} (hm : ∀ fr hp nx, K fr hp nx → K' fr hp nx) {l : List Oper} {fr : Fr} {hp : List AO} {nx : Nat} (h : runDraw0 E all tab hs l fr hp nx K) : runDraw0 E all tab hs l fr hp nx K' :=
  voids_mono _ (fun _ h => runDraw_mono hm l 0 nx [] h) h
theorem drawRun_mono {all : List Oper} (hm : ∀ fr hp nx, K fr hp nx → K' fr hp nx) {fr : Fr} {hp : List AO} {nx : Nat} (h : drawRun E all fr hp nx K) : drawRun E all fr hp nx K' := by
  unfold drawRun at *
  split
  · rename_i e
    simp only [e] at h
    exact runDraw0_mono hm h
  · rename_i pre s1 s2 e
    simp only [e] at h
    exact runDraw0_mono (fun fr hp nx h => runOps_mono (fun fr1 hp1 nx1 h => both_i (both_out h).1 (hm _ _ _ (both_out h).2)) _ h) h
theorem drawAll_mono : ∀ (d : Nat) {all : List Oper} {K K' : Post} (hm : ∀ fr hp nx, K fr hp nx → K' fr hp nx) {fr : Fr} {hp : List AO} {nx : Nat} (h : drawAll E d all fr hp nx K), drawAll E d all fr hp nx K'
  | 0, _, _, _, hm, _, _, _, h => ⟨h.1, drawRun_mono hm h.2⟩
  | d + 1, all, K, K', hm, fr, hp, nx, h => by
    unfold drawAll at *
    split
    · rename_i e
      simp only [e] at h
      exact ⟨h.1, drawRun_mono hm h.2⟩
    · rename_i i k e
      simp only [e] at h
      exact drawAll_mono d (fun fr1 hp1 nx1 h => both_i (both_out h).1 (hm _ _ _ (both_out h).2)) h
end

theorem cutF_mono : ∀ (fr : Fr) (wr : List Nat) {K K' : Fr → Prop}, (∀ b, K b → K' b) → cutF wr fr K → cutF wr fr K'
  | [], _, _, _, hm, h => hm _ h
  | (s, v) :: r, wr, K, K', hm, h => by
    unfold cutF at h ⊢
    cases hw : hasN wr s with
    | true => rw [hw] at h; exact cutF_mono r wr hm h
    | false => rw [hw] at h; exact cutF_mono r _ (fun b hb => hm _ hb) h
theorem run_mono {E : Env} : ∀ (co : Code) {fr : Fr} {hp : List AO} {nx : Nat} {Q Q' : Ex → Post}, (∀ e fr hp nx, Q e fr hp nx → Q' e fr hp nx) → run E co fr hp nx Q → run E co fr hp nx Q'
  | .skip, fr, hp, nx, Q, Q', hm, hk => hm _ _ _ _ hk
  | .region id ops false, fr, hp, nx, Q, Q', hm, hk => runOps_mono (hm .normal) _ hk
  | .region id ops true, fr, hp, nx, Q, Q', hm, hk => drawAll_mono 6 (hm .normal) hk
  | .seq x y, fr, hp, nx, Q, Q', hm, hk => run_mono x (fun e fr hp nx h => by
      cases e with
      | normal => exact run_mono y hm h
      | ret => exact hm _ _ _ _ h
      | exit n => exact hm _ _ _ _ h
      | goto n => exact hm _ _ _ _ h) hk
  | .cond x y z, fr, hp, nx, Q, Q', hm, hk => by
    unfold run at *
    split
    · rename_i b e
      simp only [e] at hk
      exact fork_i (fun hb => run_mono y hm ((fork_out hk).1 hb)) (fun hb => run_mono z hm ((fork_out hk).2 hb))
    · rename_i hne
      split at hk
      · rename_i b e; exact absurd e (hne b)
      · exact hk
  | .block id x, fr, hp, nx, Q, Q', hm, hk => run_mono x (fun e fr hp nx h => by
      cases e with
      | normal => exact hm _ _ _ _ h
      | ret => exact hm _ _ _ _ h
      | goto n => exact hm _ _ _ _ h
      | exit n =>
        simp only at h ⊢
        cases hb : Nat.beq n id with
        | true => simp only [hb, cond_true] at h ⊢; exact hm _ _ _ _ h
        | false => simp only [hb, cond_false] at h ⊢; exact hm _ _ _ _ h) hk
  | .loop x, fr, hp, nx, Q, Q', hm, hk => by
    have hk0 : cutF (writes x) fr (fun base => loopP E.m base (run E x) fr hp nx Q) := hk
    show cutF (writes x) fr (fun base => loopP E.m base (run E x) fr hp nx Q')
    refine cutF_mono fr _ (fun base hk' => ?_) hk0
    unfold loopP at *
    obtain ⟨I, h0, hr⟩ := hk'
    refine ⟨I, h0, fun n fr hp nx hI => run_mono x (fun e fr hp nx h => ?_) (hr n fr hp nx hI)⟩
    cases e with
    | normal => exact h
    | ret => exact hm _ _ _ _ h
    | exit k => exact hm _ _ _ _ h
    | goto k => exact hm _ _ _ _ h
  | .exit n, fr, hp, nx, Q, Q', hm, hk => hm _ _ _ _ hk
  | .ret, fr, hp, nx, Q, Q', hm, hk => hm _ _ _ _ hk
  | .rangeFunc _ _ _ _, _, _, _, _, _, _, hk => hk.elim
  | .scope _, _, _, _, _, _, _, hk => hk.elim
  | .label _, fr, hp, nx, Q, Q', hm, hk => hm _ _ _ _ hk
  | .goto n, fr, hp, nx, Q, Q', hm, hk => hm _ _ _ _ hk
  | .refuse _, _, _, _, _, _, _, hk => hk.elim

/-- A loop of at most n rounds: each is run. -/
theorem unroll {E : Env} {co : Code} {m : Nat} {base fr : Fr} {hp : List AO} {nx : Nat} {Q : Ex → Post} (n : Nat) (h : rounds (run E co) Q n fr hp nx) : loopP m base (run E co) fr hp nx Q :=
  loop_rounds n (fun hm hk => run_mono co hm hk) h
/-- A frame without the slots that hold what is one's own, but for some. -/
def keepK (ks : List Nat) : List Nat → Fr → (Fr → Prop) → Prop
  | _, [], K => K []
  | dr, (s, v) :: r, K => bif (hasN ks s || fixA [] v) && !hasN dr s then keepK ks dr r (fun r' => K ((s, v) :: r')) else keepK ks (s :: dr) r K
theorem keepK_ok {ks : List Nat} : ∀ (dr : List Nat) (base : Fr) {K : Fr → Prop}, keepK ks dr base K → ∃ b, K b ∧ ∀ s, s ∈ slots b → ¬ s ∈ dr ∧ s ∈ slots base ∧ look base s = look b s
  | dr, [], K, h => ⟨[], h, fun s hs => by cases hs⟩
  | dr, (t, v) :: r, K, h => by
    unfold keepK at h
    cases hb : (hasN ks t || fixA [] v) && !hasN dr t with
    | true =>
      rw [hb] at h
      obtain ⟨b, hk, hs⟩ := keepK_ok dr r (K := fun r' => K ((t, v) :: r')) h
      have hd : ¬ t ∈ dr := hasN_ok _ _ (by simp only [Bool.and_eq_true, Bool.not_eq_true'] at hb; exact hb.2)
      refine ⟨_, hk, fun s hm => ?_⟩
      by_cases e : t = s
      · subst e; exact ⟨hd, by simp [slots], by simp [look]⟩
      · have hm' : s ∈ slots b := by
          rcases List.mem_cons.1 hm with e' | hm
          · exact absurd e'.symm e
          · exact hm
        obtain ⟨h1, h2, h3⟩ := hs s hm'
        have : Nat.beq t s = false := by cases hq : Nat.beq t s with | false => rfl | true => exact absurd (Nat.eq_of_beq_eq_true hq) e
        exact ⟨h1, by simp [slots, h2], by simp only [look, this, cond_false]; exact h3⟩
    | false =>
      rw [hb] at h
      obtain ⟨b, hk, hs⟩ := keepK_ok (t :: dr) r h
      refine ⟨b, hk, fun s hm => ?_⟩
      obtain ⟨h1, h2, h3⟩ := hs s hm
      have e : ¬ t = s := fun e => h1 (by simp [e])
      have : Nat.beq t s = false := by cases hq : Nat.beq t s with | false => rfl | true => exact absurd (Nat.eq_of_beq_eq_true hq) e
      exact ⟨fun h => h1 (by simp [h]), by simp [slots, h2], by simp only [look, this, cond_false]; exact h3⟩
/-- A loop whose base is less. -/
theorem kept {E : Env} {co : Code} {m : Nat} {base fr : Fr} {hp : List AO} {nx : Nat} {Q : Ex → Post} (ks : List Nat) (h : keepK ks [] base fun b => loopP m b (run E co) fr hp nx Q) : loopP m base (run E co) fr hp nx Q := by
  obtain ⟨b, hk, hs⟩ := keepK_ok [] base h
  unfold loopP at hk ⊢
  obtain ⟨I, h0, hr⟩ := hk
  exact ⟨I, fun hb => h0 fun s hm => (hb s (hs s hm).2.1).trans (hs s hm).2.2, hr⟩
/-- A frame of some slots alone. -/
def keepO (ks : List Nat) : List Nat → Fr → (Fr → Prop) → Prop
  | _, [], K => K []
  | dr, (s, v) :: r, K => bif hasN ks s && !hasN dr s then keepO ks dr r (fun r' => K ((s, v) :: r')) else keepO ks (s :: dr) r K
theorem keepO_ok {ks : List Nat} : ∀ (dr : List Nat) (base : Fr) {K : Fr → Prop}, keepO ks dr base K → ∃ b, K b ∧ ∀ s, s ∈ slots b → ¬ s ∈ dr ∧ s ∈ slots base ∧ look base s = look b s
  | dr, [], K, h => ⟨[], h, fun s hs => by cases hs⟩
  | dr, (t, v) :: r, K, h => by
    unfold keepO at h
    cases hb : hasN ks t && !hasN dr t with
    | true =>
      rw [hb] at h
      obtain ⟨b, hk, hs⟩ := keepO_ok dr r (K := fun r' => K ((t, v) :: r')) h
      have hd : ¬ t ∈ dr := hasN_ok _ _ (by simp only [Bool.and_eq_true, Bool.not_eq_true'] at hb; exact hb.2)
      refine ⟨_, hk, fun s hm => ?_⟩
      by_cases e : t = s
      · subst e; exact ⟨hd, by simp [slots], by simp [look]⟩
      · have hm' : s ∈ slots b := by
          rcases List.mem_cons.1 hm with e' | hm
          · exact absurd e'.symm e
          · exact hm
        obtain ⟨h1, h2, h3⟩ := hs s hm'
        have : Nat.beq t s = false := by cases hq : Nat.beq t s with | false => rfl | true => exact absurd (Nat.eq_of_beq_eq_true hq) e
        exact ⟨h1, by simp [slots, h2], by simp only [look, this, cond_false]; exact h3⟩
    | false =>
      rw [hb] at h
      obtain ⟨b, hk, hs⟩ := keepO_ok (t :: dr) r h
      refine ⟨b, hk, fun s hm => ?_⟩
      obtain ⟨h1, h2, h3⟩ := hs s hm
      have e : ¬ t = s := fun e => h1 (by simp [e])
      have : Nat.beq t s = false := by cases hq : Nat.beq t s with | false => rfl | true => exact absurd (Nat.eq_of_beq_eq_true hq) e
      exact ⟨fun h => h1 (by simp [h]), by simp [slots, h2], by simp only [look, this, cond_false]; exact h3⟩
theorem only {E : Env} {co : Code} {m : Nat} {base fr : Fr} {hp : List AO} {nx : Nat} {Q : Ex → Post} (ks : List Nat) (h : keepO ks [] base fun b => loopP m b (run E co) fr hp nx Q) : loopP m base (run E co) fr hp nx Q := by
  obtain ⟨b, hk, hs⟩ := keepO_ok [] base h
  unfold loopP at hk ⊢
  obtain ⟨I, h0, hr⟩ := hk
  exact ⟨I, fun hb => h0 fun s hm => (hb s (hs s hm).2.1).trans (hs s hm).2.2, hr⟩
/-- A round's end. -/
def next {σ : Type} (m : Nat) (base : Fr) (F : σ → Fr) (H : σ → List AO) (inv : σ → Prop) (μ : σ → Nat) (x : σ) (fr : Fr) (hp : List AO) (nx : Nat) : Prop :=
  ∃ y, inv y ∧ μ y < μ x ∧ tailB base fr ∧ slimP m base fr hp (F y) (H y)
theorem next_i {σ : Type} {m : Nat} {base : Fr} {F : σ → Fr} {H : σ → List AO} {inv : σ → Prop} {μ : σ → Nat} {x : σ} {fr : Fr} {hp : List AO} {nx : Nat} (y : σ) (h1 : inv y) (h2 : μ y < μ x) (h3 : dropF (subL fr base) fr = base) (h4 : offN (slots base) (slots (takeF (subL fr base) fr)) = true) (h5 : slimP m base fr hp (F y) (H y)) : next m base F H inv μ x fr hp nx := ⟨y, h1, h2, ⟨h3, h4⟩, h5⟩
theorem next_out {σ : Type} {m : Nat} {base : Fr} {F : σ → Fr} {H : σ → List AO} {inv : σ → Prop} {μ : σ → Nat} {x : σ} {fr : Fr} {hp : List AO} {nx : Nat} (h : next m base F H inv μ x fr hp nx) : ∃ y, inv y ∧ μ y < μ x ∧ Slim m fr hp nx (joinF (F y) base) (H y) (lenO (H y)) := by
  obtain ⟨y, h1, h2, h3, h4⟩ := h
  exact ⟨y, h1, h2, slim_s (tail_sub h3) h4⟩
attribute [irreducible] next
/-- A loop with a relation over a variable. -/
theorem looped {E : Env} {co : Code} {m : Nat} {base fr : Fr} {hp : List AO} {nx : Nat} {Q : Ex → Post} {σ : Type} (F : σ → Fr) (H : σ → List AO) (inv : σ → Prop) (μ : σ → Nat) (x0 : σ) (h0 : inv x0) (hS : slimP m base fr hp (F x0) (H x0))
    (hs : ∀ x, inv x → run E co (joinF (F x) base) (H x) (lenO (H x)) fun e fr hp nx => match e with
      | .normal => next m base F H inv μ x fr hp nx
      | .ret => Q .ret fr hp nx
      | .exit k => Q (.exit k) fr hp nx
      | .goto k => Q (.goto k) fr hp nx) : loopP m base (run E co) fr hp nx Q :=
  loop_inv F H inv μ x0 h0 (fun hsub => slim_s hsub hS) (fun x hx => run_mono co (fun e fr hp nx h => by
    cases e with
    | normal => exact next_out h
    | ret => exact h
    | exit k => exact h
    | goto k => exact h) (hs x hx)) (fun hm hk => run_mono co hm hk)

/-! ### Tables -/
def AllTy (P : Program) : List (TypeId × TI) → Prop
  | [] => True
  | (t, i) :: r => TIok P t i ∧ AllTy P r
theorem allTy_ok {P : Program} : ∀ (l : List (TypeId × TI)), AllTy P l → ∀ t i, tyOf l t = some i → TIok P t i
  | [], _, t, i, h => by cases h
  | (t', i') :: r, ⟨h1, h2⟩, t, i, h => by
    simp only [tyOf] at h
    cases hb : Nat.beq t' t with
    | true =>
      simp only [hb, cond_true, Option.some.injEq] at h
      have := Nat.eq_of_beq_eq_true hb
      subst this h; exact h1
    | false =>
      simp only [hb, cond_false] at h
      exact allTy_ok r h2 t i h

section
variable {P : Program} {t : TypeId} {i : TI}
structure Eks (P : Program) (t : TypeId) (i : TI) : Prop where
  eq : i.eq = none ∨ (P.eqGuardType P.depth t = false ∧ flatD P 100 t = i.eq)
  ik : i.ik = none ∨ (P.underlying t = i.ik.map .int)
theorem Eks.e (h : Eks P t i) (ks : List Nat) (he : i.eq = some ks) : P.eqGuardType P.depth t = false ∧ flatD P 100 t = some ks := by
  rcases h.eq with h | h
  · rw [h] at he; cases he
  · rw [he] at h; exact h
theorem Eks.k (h : Eks P t i) (k : IntKind) (he : i.ik = some k) : P.underlying t = some (.int k) := by
  rcases h.ik with h | h
  · rw [h] at he; cases he
  · rw [he] at h; exact h
theorem ro_of (h : i.ro = none ∨ i.ro.map tsz = some i.sz) : ∀ τ, i.ro = some τ → tsz τ = i.sz := fun τ e => by rcases h with h | h <;> simp_all
theorem zs_of (h : (i.ze.map (·.cells.size)) = none ∨ (i.ze.map (·.cells.size)) = some i.sz) : ∀ z, i.ze = some z → z.cells.size = i.sz := fun z e => by rcases h with h | h <;> simp_all
theorem ti0 (hk : i.kd = 0) (h1 : (P.info? t).map (·.size) = some i.sz) (h2 : (P.info? t).map (·.zero) = some i.ze) (h3 : (P.underlying t).map TypeDesc.isRow = some i.ag) (he : Eks P t i) (hb : (P.info? t).map (·.bytes) = some i.by_) (hr : i.ro = none ∨ i.ro.map tsz = some i.sz) (hz : (i.ze.map (·.cells.size)) = none ∨ (i.ze.map (·.cells.size)) = some i.sz) : TIok P t i :=
  ⟨h1, fun z h => by rw [h2, h], h3, fun h => by simp [hk] at h, fun h => by simp [hk] at h, fun h => by simp [hk] at h, fun h => by simp [hk] at h, he.e, he.k, hb, ro_of hr, zs_of hz⟩
theorem ti1 {fs : Array Field} (hk : i.kd = 1) (h1 : (P.info? t).map (·.size) = some i.sz) (h2 : (P.info? t).map (·.zero) = some i.ze) (h3 : (P.underlying t).map TypeDesc.isRow = some i.ag) (he : Eks P t i) (hb : (P.info? t).map (·.bytes) = some i.by_) (hr : i.ro = none ∨ i.ro.map tsz = some i.sz) (hz : (i.ze.map (·.cells.size)) = none ∨ (i.ze.map (·.cells.size)) = some i.sz)
    (h4 : P.underlying t = some (.struct fs)) (h5 : fs.toList.map (fun f => (f.offset, f.type)) = i.fl) (h6 : fs.toList.mapM (fun f => (P.info? f.type).map fun j => (f.offset, j.size)) = some i.pl) : TIok P t i :=
  ⟨h1, fun z h => by rw [h2, h], h3, fun _ => ⟨fs, h4, h5, h6⟩, fun h => by simp [hk] at h, fun h => by simp [hk] at h, fun h => by simp [hk] at h, he.e, he.k, hb, ro_of hr, zs_of hz⟩
theorem ti2 (hk : i.kd = 2) (h1 : (P.info? t).map (·.size) = some i.sz) (h2 : (P.info? t).map (·.zero) = some i.ze) (h3 : (P.underlying t).map TypeDesc.isRow = some i.ag) (he : Eks P t i) (hb : (P.info? t).map (·.bytes) = some i.by_) (hr : i.ro = none ∨ i.ro.map tsz = some i.sz) (hz : (i.ze.map (·.cells.size)) = none ∨ (i.ze.map (·.cells.size)) = some i.sz)
    (h4 : P.underlying t = some (.array i.ar i.el)) : TIok P t i :=
  ⟨h1, fun z h => by rw [h2, h], h3, fun h => by simp [hk] at h, fun _ => h4, fun h => by simp [hk] at h, fun h => by simp [hk] at h, he.e, he.k, hb, ro_of hr, zs_of hz⟩
theorem ti3 (hk : i.kd = 3) (h1 : (P.info? t).map (·.size) = some i.sz) (h2 : (P.info? t).map (·.zero) = some i.ze) (h3 : (P.underlying t).map TypeDesc.isRow = some i.ag) (he : Eks P t i) (hb : (P.info? t).map (·.bytes) = some i.by_) (hr : i.ro = none ∨ i.ro.map tsz = some i.sz) (hz : (i.ze.map (·.cells.size)) = none ∨ (i.ze.map (·.cells.size)) = some i.sz)
    (h4 : P.underlying t = some (.slice i.el)) : TIok P t i :=
  ⟨h1, fun z h => by rw [h2, h], h3, fun h => by simp [hk] at h, fun h => by simp [hk] at h, fun _ => h4, fun h => by simp [hk] at h, he.e, he.k, hb, ro_of hr, zs_of hz⟩
theorem ti5 (hk : i.kd = 5) (h1 : (P.info? t).map (·.size) = some i.sz) (h2 : (P.info? t).map (·.zero) = some i.ze) (h3 : (P.underlying t).map TypeDesc.isRow = some i.ag) (he : Eks P t i) (hb : (P.info? t).map (·.bytes) = some i.by_) (hr : i.ro = none ∨ i.ro.map tsz = some i.sz) (hz : (i.ze.map (·.cells.size)) = none ∨ (i.ze.map (·.cells.size)) = some i.sz)
    (h4 : P.underlying t = some .string) : TIok P t i :=
  ⟨h1, fun z h => by rw [h2, h], h3, fun h => by simp [hk] at h, fun h => by simp [hk] at h, fun h => by simp [hk] at h, fun _ => h4, he.e, he.k, hb, ro_of hr, zs_of hz⟩
end

/-- A function's contract holds. -/
def FnOk (P : Program) (f : FuncId) (k : Con) : Prop :=
  ∀ l hp r, k l hp = some r → r.pre → ∀ (c : Cx) (args : Array Value), sat l c args.toList → Obs c hp →
    (∃ fn : Func, P.funcs[f]? = some fn ∧ fn.body.isSome = true ∧ fn.name ≠ "runtime.NumGoroutine") ∧
    Calls P f args c.w fun e w' => ∃ x c', e = .returned x ∧ c'.w = w' ∧ Ext c c' ∧ Obs c' (r.lent ++ r.new) ∧ r.lent.length = hp.length ∧ sat r.res c' [x]
def cOf : List (FuncId × Con) → FuncId → Con
  | [], _, _, _ => none
  | (f, k) :: r, g, l, hp => bif Nat.beq f g then (match k l hp with | some q => some q | none => cOf r g l hp) else cOf r g l hp
def AllFn (P : Program) : List (FuncId × Con) → Prop
  | [] => True
  | (f, k) :: r => FnOk P f k ∧ AllFn P r
theorem allFn_ok {P : Program} : ∀ (l : List (FuncId × Con)), AllFn P l → CallOk P (cOf l)
  | [], _ => fun f l hp r h => by cases h
  | (f, k) :: r, ⟨h1, h2⟩ => fun g l hp q h => by
    simp only [cOf] at h
    cases hb : Nat.beq f g with
    | true =>
      simp only [hb, cond_true] at h
      have := Nat.eq_of_beq_eq_true hb
      subst this
      split at h
      · rename_i q' hq'
        injection h with h; subst h
        exact h1 l hp q' hq'
      · exact allFn_ok r h2 f l hp q h
    | false =>
      simp only [hb, cond_false] at h
      exact allFn_ok r h2 g l hp q h
theorem allFn_app {P : Program} : ∀ (l m : List (FuncId × Con)), AllFn P l → AllFn P m → AllFn P (l ++ m)
  | [], _, _, h => h
  | (f, k) :: r, m, h, h' => ⟨h.1, allFn_app r m h.2 h'⟩

/-- **A function's contract**, out of the run of its code. -/
theorem fnOk {P : Program} (hm : P.follows .mixedOrders = true) {tys : List (TypeId × TI)} (hT : AllTy P tys) {cs : List (FuncId × Con)} (hC : AllFn P cs) {f : FuncId} {fn : Func} {co : Code} (hf : P.funcs[f]? = some fn) (hb : fn.body = some co)
    (hname : (fn.name == "runtime.NumGoroutine") = false) {N : Nat} (hN : fn.ntmps = N) {k : Con} (fs : List FuncId)
    (h : ∀ l hp r, k l hp = some r → r.pre → ∃ l' hp' n, lenIs l' n = true ∧ n ≤ N ∧ hp'.length = hp.length ∧ (∀ c vs, sat l c vs → Obs c hp → sat l' c vs ∧ Obs c hp') ∧ runT ⟨tys, N, cOf cs, hasN fs, lenO hp'⟩ co (argF l' 0) hp' (lenO hp') (fin ⟨tys, N, cOf cs, hasN fs, lenO hp'⟩ fn.results.toList r)) : FnOk P f k := by
  intro l hp r hk hpre c args hs hob
  obtain ⟨l', hp', n, h1, h2, h3, h4, h5⟩ := h l hp r hk hpre
  refine ⟨⟨fn, hf, by rw [hb]; rfl, by simpa using hname⟩, ?_⟩
  subst hN
  obtain ⟨h6, h7⟩ := h4 c _ hs hob
  rw [← h3]
  rw [lenO_eq] at h5
  exact calls_of_run hm ⟨allTy_ok tys hT, allFn_ok cs hC⟩ hf hb rfl h1 h2 rfl h5 c args h6 h7

end Go.Proofs.Ythlkhjfilfdpiaa.Eng
