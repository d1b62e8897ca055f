/- Ways put together, in plain Lean. No program in sight. -/
import Derived.Test.YthlkhjfilfdpiaaP05
namespace Go.Proofs.Ythlkhjfilfdpiaa
set_option linter.unusedVariables false
set_option linter.unusedSimpArgs false

theorem thS_in {a b : Sm} (h : (thS a b).2 = true) : a.ok = true ∧ b.ok = true ∧ a.t = b.f ∧ (thC a b).ok = true ∧ thS a b = (thC a b, true) := by
  unfold thS at *
  split at h
  · rename_i hc; rw [if_pos hc]; exact ⟨hc.1, hc.2.1, hc.2.2.1, hc.2.2.2, rfl⟩
  · cases h
theorem apS_in {s : Sm} {t : St} (h : (apS s t).2 = true) : s.ok = true ∧ t.ok = true ∧ t.d = s.f ∧ apS s t = (⟨s.t, t.e, apN s t 0, apN s t 1, apN s t 2⟩, true) ∧ St.ok ⟨s.t, t.e, apN s t 0, apN s t 1, apN s t 2⟩ = true := by
  unfold apS at *
  dsimp only at *
  split at h
  · rename_i hc; rw [if_pos hc]; exact ⟨hc.1, hc.2.1, hc.2.2.1, rfl, hc.2.2.2⟩
  · cases h
theorem thS_mk {a b : Sm} (h1 : a.ok = true) (h2 : b.ok = true) (h3 : a.t = b.f) : thS a b = if (thC a b).ok = true then (thC a b, true) else (Sm.zero, false) := by
  unfold thS
  simp [h1, h2, h3]
theorem apS_mk {s : Sm} {t : St} (h1 : s.ok = true) (h2 : t.ok = true) (h3 : t.d = s.f) : apS s t = if St.ok ⟨s.t, t.e, apN s t 0, apN s t 1, apN s t 2⟩ = true then (⟨s.t, t.e, apN s t 0, apN s t 1, apN s t 2⟩, true) else (St.zero, false) := by
  unfold apS
  simp [h1, h2, h3]
theorem thC_f (a b : Sm) : (thC a b).f = a.f := by
  unfold thC
  split
  · rfl
  · split <;> rfl
theorem thC_t (a b : Sm) : (thC a b).t = b.t := by
  unfold thC
  split
  · rfl
  · split <;> rfl
theorem sm_ok {s : Sm} (h : s.ok = true) : sOK s.f s.t s.k s.n s.a s.b s.c := rS_ok h
theorem st_ok {s : St} (h : s.ok = true) : tOK s.d s.e s.a s.b s.c := rT_ok h

set_option maxHeartbeats 8000000 in
theorem ap_th {a b : Sm} {t u : St} (ha : a.ok = true) (hb : b.ok = true) (h : a.t = b.f) (hu : u = ⟨a.t, t.e, apN a t 0, apN a t 1, apN a t 2⟩) : apN (thC a b) t 0 = apN b u 0 ∧ apN (thC a b) t 1 = apN b u 1 ∧ apN (thC a b) t 2 = apN b u 2 := by
  have qa := sm_ok ha
  have qb := sm_ok hb
  subst hu
  obtain ⟨f, t0, k, n, x, y, z⟩ := a
  obtain ⟨f', t', k', n', x', y', z'⟩ := b
  obtain ⟨d, e, l, m, o⟩ := t
  clear ha hb
  unfold sOK at qa qb
  dsimp only at *
  subst h
  rcases (by omega : k = 0 ∨ k = 1 ∨ k = 2 ∨ k = 3) with rfl | rfl | rfl | rfl <;> rcases (by omega : k' = 0 ∨ k' = 1 ∨ k' = 2 ∨ k' = 3) with rfl | rfl | rfl | rfl <;>
    rcases (by omega : t0 = 0 ∨ t0 = 1 ∨ t0 = 2 ∨ t0 = 3) with rfl | rfl | rfl | rfl <;> rcases (by omega : t' = 0 ∨ t' = 1 ∨ t' = 2 ∨ t' = 3) with rfl | rfl | rfl | rfl <;> try (exfalso; omega)
  all_goals (simp [apN, thC, thT, St.at, Sm.at] at *)
  all_goals (try omega)

/-- What a way and another one behind it make of a time. -/
theorem then_apply {a b : Sm} {t : St} (h1 : (thS a b).2 = true) (h2 : (apS a t).2 = true) : apS (thS a b).1 t = apS b (apS a t).1 := by
  obtain ⟨ha, hb, hab, hc, e1⟩ := thS_in h1
  obtain ⟨_, ht, hd, e2, hu⟩ := apS_in h2
  rw [e1, e2]
  dsimp only
  have hf := thC_f a b
  have ht' := thC_t a b
  rw [apS_mk hc ht (by rw [hf]; exact hd), apS_mk hb hu (by dsimp only; exact hab)]
  obtain ⟨q0, q1, q2⟩ := ap_th (t := t) ha hb hab rfl
  rw [q0, q1, q2, ht']

set_option maxHeartbeats 16000000 in
theorem thC_assoc {a b c : Sm} (ha : a.ok = true) (hb : b.ok = true) (hc : c.ok = true) (h1 : a.t = b.f) (h2 : b.t = c.f) : thC (thC a b) c = thC a (thC b c) := by
  have qa := sm_ok ha
  have qb := sm_ok hb
  have qc := sm_ok hc
  obtain ⟨f, t, k, n, x, y, z⟩ := a
  obtain ⟨f', t', k', n', x', y', z'⟩ := b
  obtain ⟨f2, t2, k2, n2, x2, y2, z2⟩ := c
  clear ha hb hc
  unfold sOK at qa qb qc
  dsimp only at *
  subst h1 h2
  have hk : 0 ≤ k ∧ k ≤ 3 ∧ 0 ≤ k' ∧ k' ≤ 3 ∧ 0 ≤ k2 ∧ k2 ≤ 3 := by omega
  clear qa qb qc
  obtain ⟨g1, g2, g3, g4, g5, g6⟩ := hk
  rcases (by omega : k = 0 ∨ k = 1 ∨ k = 2 ∨ k = 3) with rfl | rfl | rfl | rfl <;> rcases (by omega : k' = 0 ∨ k' = 1 ∨ k' = 2 ∨ k' = 3) with rfl | rfl | rfl | rfl <;>
    rcases (by omega : k2 = 0 ∨ k2 = 1 ∨ k2 = 2 ∨ k2 = 3) with rfl | rfl | rfl | rfl
  all_goals (simp [thC, thT, Sm.at])
  all_goals (try omega)

/-- Three ways. -/
theorem then_three {a b c : Sm} (h1 : (thS a b).2 = true) (h2 : (thS b c).2 = true) : thS (thS a b).1 c = thS a (thS b c).1 := by
  obtain ⟨ha, hb, hab, hx, e1⟩ := thS_in h1
  obtain ⟨_, hc, hbc, hy, e2⟩ := thS_in h2
  rw [e1, e2]
  dsimp only
  have ht' := thC_t a b
  have hf := thC_f b c
  rw [thS_mk hx hc (by rw [ht']; exact hbc), thS_mk ha hy (by rw [hf]; exact hab), thC_assoc ha hb hc hab hbc]

theorem leS_in {a b : Sm} (h : leS a b = true) : a.ok = true ∧ b.ok = true ∧ a.f = b.f ∧ a.t = b.t ∧ a.k ≤ b.k ∧ rwN a 0 ≤ rwN b 0 ∧ rwN a 1 ≤ rwN b 1 ∧ rwN a 2 ≤ rwN b 2 := by
  unfold leS at h
  exact of_decide_eq_true h
theorem leS_mk {a b : Sm} (h : a.ok = true ∧ b.ok = true ∧ a.f = b.f ∧ a.t = b.t ∧ a.k ≤ b.k ∧ rwN a 0 ≤ rwN b 0 ∧ rwN a 1 ≤ rwN b 1 ∧ rwN a 2 ≤ rwN b 2) : leS a b = true := by
  unfold leS
  exact decide_eq_true h

set_option maxHeartbeats 16000000 in
theorem grow_behind {a b c : Sm} (h : leS a b = true) (h1 : (thS b c).2 = true) : (thS a c).2 = true ∧ leS (thS a c).1 (thS b c).1 = true := by
  obtain ⟨ha, hb, hf, ht, hk, r0, r1, r2⟩ := leS_in h
  obtain ⟨_, hc, hbc, hx, e1⟩ := thS_in h1
  have qa := sm_ok ha
  have qb := sm_ok hb
  have qc := sm_ok hc
  have qx := sm_ok hx
  have key : sOK (thC a c).f (thC a c).t (thC a c).k (thC a c).n (thC a c).a (thC a c).b (thC a c).c ∧ (thC a c).f = (thC b c).f ∧ (thC a c).t = (thC b c).t ∧ (thC a c).k ≤ (thC b c).k ∧ rwN (thC a c) 0 ≤ rwN (thC b c) 0 ∧ rwN (thC a c) 1 ≤ rwN (thC b c) 1 ∧ rwN (thC a c) 2 ≤ rwN (thC b c) 2 := by
    clear ha hb hc hx e1 h h1
    obtain ⟨f, t, k, n, x, y, z⟩ := a
    obtain ⟨f', t', k', n', x', y', z'⟩ := b
    obtain ⟨f2, t2, k2, n2, x2, y2, z2⟩ := c
    dsimp only at *
    subst hf ht hbc
    have hs : 0 ≤ k ∧ k ≤ 3 ∧ 0 ≤ k' ∧ k' ≤ 3 ∧ 0 ≤ k2 ∧ k2 ≤ 3 := by unfold sOK at *; omega
    obtain ⟨g1, g2, g3, g4, g5, g6⟩ := hs
    rcases (by omega : k = 0 ∨ k = 1 ∨ k = 2 ∨ k = 3) with rfl | rfl | rfl | rfl <;> rcases (by omega : k' = 0 ∨ k' = 1 ∨ k' = 2 ∨ k' = 3) with rfl | rfl | rfl | rfl <;> (try (exfalso; omega)) <;>
      rcases (by omega : k2 = 0 ∨ k2 = 1 ∨ k2 = 2 ∨ k2 = 3) with rfl | rfl | rfl | rfl
    all_goals (simp [thC, thT, Sm.at, rwN, sOK] at *)
    all_goals omega
  have hxa : (thC a c).ok = true := rS_true key.1
  have e2 : thS a c = (thC a c, true) := by rw [thS_mk ha hc (by omega), if_pos hxa]
  rw [e1, e2]
  exact ⟨rfl, leS_mk ⟨hxa, hx, key.2⟩⟩

set_option maxHeartbeats 16000000 in
theorem grow_ahead {a b c : Sm} (h : leS a b = true) (h1 : (thS c b).2 = true) : (thS c a).2 = true ∧ leS (thS c a).1 (thS c b).1 = true := by
  obtain ⟨ha, hb, hf, ht, hk, r0, r1, r2⟩ := leS_in h
  obtain ⟨hc, _, hcb, hx, e1⟩ := thS_in h1
  have qa := sm_ok ha
  have qb := sm_ok hb
  have qc := sm_ok hc
  have qx := sm_ok hx
  have key : sOK (thC c a).f (thC c a).t (thC c a).k (thC c a).n (thC c a).a (thC c a).b (thC c a).c ∧ (thC c a).f = (thC c b).f ∧ (thC c a).t = (thC c b).t ∧ (thC c a).k ≤ (thC c b).k ∧ rwN (thC c a) 0 ≤ rwN (thC c b) 0 ∧ rwN (thC c a) 1 ≤ rwN (thC c b) 1 ∧ rwN (thC c a) 2 ≤ rwN (thC c b) 2 := by
    clear ha hb hc hx e1 h h1
    obtain ⟨f, t, k, n, x, y, z⟩ := a
    obtain ⟨f', t', k', n', x', y', z'⟩ := b
    obtain ⟨f2, t2, k2, n2, x2, y2, z2⟩ := c
    dsimp only at *
    subst hf ht hcb
    have hs : 0 ≤ k ∧ k ≤ 3 ∧ 0 ≤ k' ∧ k' ≤ 3 ∧ 0 ≤ k2 ∧ k2 ≤ 3 := by unfold sOK at *; omega
    obtain ⟨g1, g2, g3, g4, g5, g6⟩ := hs
    rcases (by omega : k = 0 ∨ k = 1 ∨ k = 2 ∨ k = 3) with rfl | rfl | rfl | rfl <;> rcases (by omega : k' = 0 ∨ k' = 1 ∨ k' = 2 ∨ k' = 3) with rfl | rfl | rfl | rfl <;> (try (exfalso; omega)) <;>
      rcases (by omega : k2 = 0 ∨ k2 = 1 ∨ k2 = 2 ∨ k2 = 3) with rfl | rfl | rfl | rfl
    all_goals (simp [thC, thT, Sm.at, rwN, sOK] at *)
    all_goals omega
  have hxa : (thC c a).ok = true := rS_true key.1
  have e2 : thS c a = (thC c a, true) := by rw [thS_mk hc ha (by omega), if_pos hxa]
  rw [e1, e2]
  exact ⟨rfl, leS_mk ⟨hxa, hx, key.2⟩⟩

theorem leT_in {a b : St} (h : leT a b = true) : a.d = b.d ∧ a.ok = true ∧ b.ok = true ∧ a.e ≤ b.e ∧ a.a ≤ b.a ∧ a.b ≤ b.b ∧ a.c ≤ b.c := by
  unfold leT alS at h
  simp at h
  exact ⟨h.1.1, h.1.2.1, h.1.2.2, h.2⟩
theorem leT_mk {a b : St} (h : a.d = b.d ∧ a.ok = true ∧ b.ok = true ∧ a.e ≤ b.e ∧ a.a ≤ b.a ∧ a.b ≤ b.b ∧ a.c ≤ b.c) : leT a b = true := by
  unfold leT alS
  simp
  exact ⟨⟨h.1, h.2.1, h.2.2.1⟩, h.2.2.2⟩

set_option maxHeartbeats 16000000 in
/-- Ways in order make of a time times in order. -/
theorem order_way {a b : Sm} {t : St} (h : leS a b = true) (h1 : (apS b t).2 = true) : (apS a t).2 = true ∧ leT (apS a t).1 (apS b t).1 = true := by
  obtain ⟨ha, hb, hf, ht, hk, r0, r1, r2⟩ := leS_in h
  obtain ⟨_, htt, hd, e1, hu⟩ := apS_in h1
  have qa := sm_ok ha
  have qb := sm_ok hb
  have qt := st_ok htt
  have qu := rT_ok hu
  have key : tOK a.t t.e (apN a t 0) (apN a t 1) (apN a t 2) ∧ apN a t 0 ≤ apN b t 0 ∧ apN a t 1 ≤ apN b t 1 ∧ apN a t 2 ≤ apN b t 2 := by
    clear ha hb htt hu e1 h h1
    obtain ⟨f, t0, k, n, x, y, z⟩ := a
    obtain ⟨f', t', k', n', x', y', z'⟩ := b
    obtain ⟨d, e, l, m, o⟩ := t
    dsimp only at *
    subst hf ht
    have hs : 0 ≤ k ∧ k ≤ 3 ∧ 0 ≤ k' ∧ k' ≤ 3 ∧ 0 ≤ t0 ∧ t0 ≤ 3 ∧ k ≤ t0 ∧ k' ≤ t0 := by unfold sOK at *; omega
    obtain ⟨g1, g2, g3, g4, g5, g6, g7, g8⟩ := hs
    rcases (by omega : k = 0 ∨ k = 1 ∨ k = 2 ∨ k = 3) with rfl | rfl | rfl | rfl <;> rcases (by omega : k' = 0 ∨ k' = 1 ∨ k' = 2 ∨ k' = 3) with rfl | rfl | rfl | rfl <;> (try (exfalso; omega)) <;>
      rcases (by omega : t0 = 0 ∨ t0 = 1 ∨ t0 = 2 ∨ t0 = 3) with rfl | rfl | rfl | rfl <;> (try (exfalso; omega))
    all_goals (simp [apN, St.at, Sm.at, rwN, sOK, tOK] at *)
    all_goals omega
  have hxa : St.ok ⟨a.t, t.e, apN a t 0, apN a t 1, apN a t 2⟩ = true := rT_true key.1
  have e2 : apS a t = (⟨a.t, t.e, apN a t 0, apN a t 1, apN a t 2⟩, true) := by rw [apS_mk ha htt (by omega), if_pos hxa]
  rw [e1, e2]
  exact ⟨rfl, leT_mk ⟨ht, hxa, hu, Int.le_refl _, key.2⟩⟩

set_option maxHeartbeats 16000000 in
/-- Apply goes with the order of times. -/
theorem order_time {b : Sm} {s t : St} (h : leT s t = true) (h1 : (apS b t).2 = true) : (apS b s).2 = true ∧ leT (apS b s).1 (apS b t).1 = true := by
  obtain ⟨hd', hs, _, he, r0, r1, r2⟩ := leT_in h
  obtain ⟨hb, htt, hd, e1, hu⟩ := apS_in h1
  have qb := sm_ok hb
  have qt := st_ok htt
  have qs := st_ok hs
  have qu := rT_ok hu
  have key : tOK b.t s.e (apN b s 0) (apN b s 1) (apN b s 2) ∧ apN b s 0 ≤ apN b t 0 ∧ apN b s 1 ≤ apN b t 1 ∧ apN b s 2 ≤ apN b t 2 := by
    clear hb htt hu e1 h h1 hs
    obtain ⟨f, t0, k, n, x, y, z⟩ := b
    obtain ⟨d, e, l, m, o⟩ := t
    obtain ⟨d', e', l', m', o'⟩ := s
    dsimp only at *
    have hs : 0 ≤ k ∧ k ≤ 3 ∧ 0 ≤ t0 ∧ t0 ≤ 3 ∧ k ≤ t0 := by unfold sOK at *; omega
    obtain ⟨g1, g2, g5, g6, g7⟩ := hs
    rcases (by omega : k = 0 ∨ k = 1 ∨ k = 2 ∨ k = 3) with rfl | rfl | rfl | rfl <;>
      rcases (by omega : t0 = 0 ∨ t0 = 1 ∨ t0 = 2 ∨ t0 = 3) with rfl | rfl | rfl | rfl <;> (try (exfalso; omega))
    all_goals (simp [apN, St.at, Sm.at, sOK, tOK] at *)
    all_goals omega
  have hxa : St.ok ⟨b.t, s.e, apN b s 0, apN b s 1, apN b s 2⟩ = true := rT_true key.1
  have e2 : apS b s = (⟨b.t, s.e, apN b s 0, apN b s 1, apN b s 2⟩, true) := by rw [apS_mk hb hs (by omega), if_pos hxa]
  rw [e1, e2]
  exact ⟨rfl, leT_mk ⟨rfl, hxa, hu, he, key.2⟩⟩

/-- A node of the other kinds changes nothing. -/
theorem map_same {t : St} (h : t.ok = true) : (ofS 2 t.d).2 = true ∧ apS (ofS 2 t.d).1 t = (t, true) := by
  have qt := st_ok h
  have hs : Sm.ok ⟨t.d, t.d, t.d, 0, 0, 0, 0⟩ = true := rS_true (by unfold tOK at qt; unfold sOK; dsimp only; omega)
  have e : ofS 2 t.d = (⟨t.d, t.d, t.d, 0, 0, 0, 0⟩, true) := by unfold ofS; simp [hs]
  rw [e]
  refine ⟨rfl, ?_⟩
  rw [apS_mk hs h rfl]
  obtain ⟨d, e, l, m, o⟩ := t
  unfold tOK at qt
  dsimp only at *
  rcases (by omega : d = 0 ∨ d = 1 ∨ d = 2 ∨ d = 3) with rfl | rfl | rfl | rfl
  all_goals (simp [apN, St.at, Sm.at] at *)
  all_goals (simp [qt, h])
  all_goals (refine rT_true ?_; unfold tOK; dsimp only; omega)
theorem leS_self (a : Sm) : leS a a = a.ok := by
  unfold leS
  cases h : a.ok <;> simp
end Go.Proofs.Ythlkhjfilfdpiaa
