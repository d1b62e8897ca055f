/- ENGINE 2, 5D: append, make, literals. -/
import Derived.Test.YthlkhjfilfdpiaaF5C
import Derived.Lib.AppendZerosOnto
namespace Go.Proofs.Ythlkhjfilfdpiaa.Eng
set_option linter.unusedVariables false
set_option linter.unusedSimpArgs false
open Go Go.RowKit

/-- A row that nobody holds. -/
def Base (W0 : World) (X : Bd) (c : Cx) (v : Value) (q : Bool) (t : Ty) (e : TypeId) (l : List (El t)) : Prop :=
  (l = [] ∧ ∃ A, v = .slice A 0 0) ∨
  ∃ g cap cur xs, v = .slice (some ⟨g, 0, none⟩) l.length cap ∧ rowHeap c.w g cur e ∧ l.length ≤ cap ∧ cap ≤ maxLen ∧ cur.size = cap * tsz t ∧ cur.toList.take (l.length * tsz t) = xs ∧ flatC c (qb q c.b0) t l xs ∧
    c.O g ∧ (∀ i, i < c.n → c.key i ≠ some g) ∧ (g < W0.heap.size → X.x g) ∧ (q = true → c.b0 ≤ g)

section
variable {P : Program} {E : Env} {W0 : World} {X : Bd} {N : Nat} {c : Cx} {fr : Fr} {hp : List AO} {nx : Nat} {a : Act} {o : Oper} {ρ : Operand → AV}

theorem info_of {e : TypeId} {ie : TI} (hie : TIok P e ie) {z : Value} (hz : ie.ze = some z) : ∃ i, P.info? e = some i ∧ i.zero = some z ∧ i.size = ie.sz ∧ i.bytes = ie.by_ := by
  have h1 := hie.sz
  have h2 := hie.ze z hz
  have h3 := hie.by_
  cases hq : P.info? e with
  | none => simp [hq] at h1
  | some i =>
    simp [hq] at h1 h2 h3
    exact ⟨i, rfl, h2, h1, h3⟩

theorem len_fits {n by_ : Nat} (h1 : n ≤ 1000000000) (h2 : by_ ≤ 100000) : n * by_ ≤ 140737488355328 := by
  have := Nat.mul_le_mul h1 h2
  omega

theorem memE_flat {w : World} {O : Nat → Prop} {b b' : Nat} : ∀ (t : Ty) (x : El t) (vs : List Value), flatTy t = true → memE w O b t x vs → memE w O b' t x vs
  | .nil, _, _, _, h => h
  | .int _ r, x, _, hf, ⟨vs, e, h⟩ => ⟨vs, e, memE_flat r x.2 vs hf h⟩
  | .bool r, x, _, hf, ⟨vs, e, h⟩ => ⟨vs, e, memE_flat r x.2 vs hf h⟩
  | .str r, x, _, hf, ⟨vs, e, h⟩ => ⟨vs, e, memE_flat r x.2 vs hf h⟩
  | .sl _ _, _, _, hf, _ => by cases hf
theorem SrcV.flat {v : Value} {q : Bool} {t : Ty} {l : List (El t)} (h : SrcV c v q t l) : SrcV c v (q || flatTy t) t l := by
  cases hf : flatTy t with
  | false => rw [Bool.or_false]; exact h
  | true =>
    obtain ⟨A, m, news, e, ⟨h1, h2⟩, h3⟩ := h
    exact ⟨A, m, news, e, ⟨h1, fun j y hj => memE_flat t y _ hf (h2 j y hj)⟩, h3⟩
theorem run_append_mk (w : World) (t ty e : TypeId) (i : TypeInfo) (ht : P.underlying t = some (.slice e)) (hi : P.info? e = some i)
    (g sLen sCap : Nat) (cur : Array Value) (hg : rowHeap w g cur e)
    (a : Addr) (m c : Nat) (news : List Value) (hl : news.length = m * i.size) (hnews : ∀ j u, news[j]? = some u → w.cell? (a.add j) = some u) (h1 : ∀ u ∈ news, u.oneCell' = true)
    (hroom : sLen + m ≤ sCap) (hfit : sLen * i.size + news.length ≤ cur.size) :
    (Builtin.append_ #[t, t] ty #[.slice (some ⟨g, 0, none⟩) sLen sCap, .slice (some a) m c]).run P w =
      .ok (.slice (some ⟨g, 0, none⟩) (sLen + m) sCap) (w.setRow g (cur.toList.take (sLen * i.size) ++ news ++ cur.toList.drop (sLen * i.size + news.length)).toArray) := by
  have hf := run_firstCells_some (P := P) w i.size m a m c news hl hnews
  have hst := run_storeCells_mk P g (sLen * i.size) e news 0 cur w hg (by simpa using hfit) h1
  simp only [Nat.add_zero] at hst
  simp [Builtin.append_, run_underlying ht, sizeOf, typeInfo, hi, Builtin.lenOf, hroom, hf, Addr.add_lit, hst]

/-- What append asks of what it appends. -/
structure AppSrc (P : Program) (T tx ty e : TypeId) (i : TypeInfo) (z : Value) (x : Value) (n : Nat) (news : List Value) (w : World) : Prop where
  none : n = 0 → ∀ (A : Option Addr) (m cap : Nat), m ≤ cap → (Builtin.append_ #[T, tx] ty #[.slice A m cap, x]).run P w = .ok (.slice A m cap) w
  room : 0 < n → ∀ (g sLen sCap : Nat) (cur : Array Value), rowHeap w g cur e → sLen + n ≤ sCap → sLen * i.size + news.length ≤ cur.size →
    (Builtin.append_ #[T, tx] ty #[.slice (some ⟨g, 0, Option.none⟩) sLen sCap, x]).run P w = .ok (.slice (some ⟨g, 0, Option.none⟩) (sLen + n) sCap) (w.setRow g (cur.toList.take (sLen * i.size) ++ news ++ cur.toList.drop (sLen * i.size + news.length)).toArray)
  grow : ∀ (base : Option Addr) (sLen sCap : Nat) (olds : List Value), (Builtin.firstCells i.size sLen (.slice base sLen sCap)).run P w.drew = .ok olds.toArray w.drew → sLen ≤ sCap → sCap < sLen + n → sLen + n ≤ 1000000000 → (sLen + n) * i.bytes ≤ 140737488355328 →
    (Builtin.append_ #[T, tx] ty #[.slice base sLen sCap, x]).run P w = .ok (.slice (some ⟨w.heap.size, 0, Option.none⟩) (sLen + n) (grownCap w (sLen + n) sCap e)) (w.drew.alloc (.cells ((olds ++ news).toArray ++ Builtin.zeroCells z.cells (grownCap w (sLen + n) sCap e - (sLen + n))) e))

theorem app_src (g1 : Gam W0 X N c fr hp nx a) {v0 vx : Value} {q q' : Bool} {t : Ty} {e T tx : TypeId} {ie : TI} {l l' : List (El t)} (hb : Base W0 X c v0 q t e l) {news : List Value} (hf : flatC c (qb q' c.b0) t l' news)
    (hT : P.underlying T = some (.slice e)) (hie : TIok P e ie) {z : Value} (hz : ie.ze = some z) (hro : tsz t = ie.sz) (h0 : 0 < tsz t) (hby : ie.by_ ≤ 100000) (hlen : (l ++ l').length ≤ 1000000000) (ty : TypeId)
    {i : TypeInfo} (hi : P.info? e = some i) (hzi : i.zero = some z) (hsz : i.size = ie.sz) (hbz : i.bytes = ie.by_) (hS : AppSrc P T tx ty e i z vx l'.length news c.w) :
    ∃ v' c', (Builtin.append_ #[T, tx] ty #[v0, vx]).run P c.w = .ok v' c'.w ∧ Gam W0 X N c' fr (hp ++ [AO.row (q && q') t e (l ++ l')]) (hp ++ [AO.row (q && q') t e (l ++ l')]).length a ∧ sat (.ow hp.length (tsz t) (l ++ l').length) c' [v'] ∧ Step c c' := by
  have hsi : i.size = tsz t := hsz.trans hro.symm
  have hll : (l ++ l').length = l.length + l'.length := List.length_append
  have hfit : (l.length + l'.length) * i.bytes ≤ 140737488355328 := by rw [hbz, ← hll]; exact len_fits hlen hby
  have hmax : l.length + l'.length ≤ maxLen := by unfold maxLen; omega
  have hqq : qb (q && q') c.b0 ≤ qb q c.b0 := qb_mono (by simp; exact fun h _ => h) (Nat.le_refl _)
  have hqq' : qb (q && q') c.b0 ≤ qb q' c.b0 := qb_mono (by simp) (Nat.le_refl _)
  have nc := g1.nc
  -- the end: a row that is told by its block
  have fin : ∀ (w' : World) (g cap : Nat) (cur : Array Value) (B : Nat → Prop), (∀ b, B b → c.O b ∧ (∀ i, i < c.n → c.key i ≠ some b) ∧ (b < W0.heap.size → X.x b)) → c.w.heap.size ≤ w'.heap.size → (∀ b, b < c.w.heap.size → ¬ B b → w'.heap[b]? = c.w.heap[b]?) → w'.os = c.w.os → w'.tape = c.w.tape → w'.output = c.w.output → c.w.drawn ≤ w'.drawn →
      g < w'.heap.size → (c.w.heap.size ≤ g ∨ (B g ∧ (q = true → c.b0 ≤ g))) → rowHeap w' g cur e → l.length + l'.length ≤ cap → cap ≤ maxLen → cur.size = cap * tsz t → ∀ xs, flatC c (qb q c.b0) t l xs → cur.toList.take ((l.length + l'.length) * tsz t) = xs ++ news →
      (Builtin.append_ #[T, tx] ty #[v0, vx]).run P c.w = .ok (.slice (some ⟨g, 0, none⟩) (l.length + l'.length) cap) w' →
      ∃ v' c', (Builtin.append_ #[T, tx] ty #[v0, vx]).run P c.w = .ok v' c'.w ∧ Gam W0 X N c' fr (hp ++ [AO.row (q && q') t e (l ++ l')]) (hp ++ [AO.row (q && q') t e (l ++ l')]).length a ∧ sat (.ow hp.length (tsz t) (l ++ l').length) c' [v'] ∧ Step c c' := by
    intro w' g cap cur B hB hw hbl os tp ou hdr hg hgB hh hcap hcm hcs xs hxs htk' hrun
    have key := fun hob => g1.add (w' := w') (ix := c.n) (n' := c.n + 1) (ln := (l ++ l').length) (k := some g) (lo := none) (v := .slice (some ⟨g, 0, none⟩) (l.length + l'.length) cap) (hv := at0_slice g _ _) (ob := .row (q && q') t e (l ++ l')) B
      (.inl ⟨rfl, rfl, rfl⟩) hB hw hbl os tp ou (fun g' hg' => by injection hg' with hg'; subst hg'; exact ⟨hg, hgB.imp_right And.left⟩) hob hdr
    have st : Step c (c.add w' c.n (some g) none (.slice (some ⟨g, 0, none⟩) (l.length + l'.length) cap) (l ++ l').length (c.n + 1) (at0_slice g _ _)) := by
      refine ⟨Nat.le_succ _, fun i b hi hl => (updF_ne _ _ (by omega)).trans hl, fun i hi _ => ⟨updF_ne _ _ (by omega), updF_ne _ _ (by omega)⟩, fun b hO hlt h' => ?_, hw, fun b hO hlt => hbl b hlt (fun hBb => hO (hB b hBb).1), Nat.le_refl _⟩
      rcases h' with h' | h'
      · exact hO h'
      · injection h' with h'; subst h'
        rcases hgB with h2 | h2
        · omega
        · exact hO (hB _ h2.1).1
    have hflat := flatC_app hxs hf hqq hqq'
    obtain ⟨hG, _⟩ := key ⟨h0, by rw [show (c.add w' c.n (some g) none (.slice (some ⟨g, 0, none⟩) (l.length + l'.length) cap) (l ++ l').length (c.n + 1) (at0_slice g _ _)).len c.n = (l ++ l').length from updF_at _ _ _],
      fun hqt g' hg' => by
        have : g = g' := by have := (updF_at c.key c.n (some g)).symm.trans hg'; injection this
        subst this
        rcases hgB with h2 | h2
        · exact Nat.le_trans g1.ob.bz h2
        · exact h2.2 (by revert hqt; cases q <;> simp),
      xs ++ news, hflat.1, .inr ⟨g, cap, cur, by rw [hll]; exact updF_at _ _ _, updF_at _ _ _, hh, by rw [hll]; exact hcap, hcm, hcs, by rw [hll]; exact htk'⟩, fun j y hj => memE_keeps (st.keeps id) t y _ (hflat.2 j y hj)⟩
    refine ⟨_, _, hrun, hG, ⟨?_, ?_, ?_, some ⟨g, 0, none⟩, cap, ?_, ?_⟩, st⟩
    · show hp.length < c.n + 1; omega
    · rw [← nc]; exact (updF_at c.len c.n _).symm
    · rw [← nc]; congr 1; exact (updF_at c.val c.n _).symm
    · rw [← nc, hll]; exact updF_at _ _ _
    · rw [hll]; exact hcap
  have grow : ∀ (base : Option Addr) (sCap : Nat) (olds : List Value), v0 = .slice base l.length sCap → l.length ≤ sCap → sCap < l.length + l'.length → flatC c (qb q c.b0) t l olds → (∀ w : World, w = c.w ∨ w = c.w.drew → (Builtin.firstCells i.size l.length (.slice base l.length sCap)).run P w = .ok olds.toArray w) →
      ∃ v' c', (Builtin.append_ #[T, tx] ty #[v0, vx]).run P c.w = .ok v' c'.w ∧ Gam W0 X N c' fr (hp ++ [AO.row (q && q') t e (l ++ l')]) (hp ++ [AO.row (q && q') t e (l ++ l')]).length a ∧ sat (.ow hp.length (tsz t) (l ++ l').length) c' [v'] ∧ Step c c' := by
    intro base sCap olds ev hle hcap hol hfc
    have hr := hS.grow base l.length sCap olds (hfc _ (.inr rfl)) hle hcap (by rw [← hll]; exact hlen) hfit
    have hge := grownCap_ge c.w (l.length + l'.length) sCap e
    have hzs : z.cells.size = tsz t := (hie.zs z hz).trans hro.symm
    refine fin (c.w.drew.alloc (.cells ((olds ++ news).toArray ++ Builtin.zeroCells z.cells (grownCap c.w (l.length + l'.length) sCap e - (l.length + l'.length))) e)) c.w.heap.size _ _ (fun _ => False) (fun b hb => hb.elim) (by rw [alloc_size]; exact Nat.le_succ _) (fun b hb' _ => alloc_old c.w.drew _ hb') rfl rfl rfl (Nat.le_succ _)
      (by rw [alloc_size]; exact Nat.lt_succ_self _) (.inl (Nat.le_refl _)) (.of (alloc_new c.w.drew _)) hge (grownCap_le_maxLen c.w _ sCap e hmax) ?_ olds hol ?_ (by rw [ev]; exact hr)
    · simp only [Array.size_append, List.size_toArray, List.length_append, hol.1, hf.1, size_zeroCells, hzs, ← Nat.add_mul]
      congr 1; omega
    · rw [Array.toList_append, List.take_append_of_le_length (by simp [hol.1, hf.1, Nat.add_mul])]
      rw [List.take_of_length_le (by simp [hol.1, hf.1, Nat.add_mul])]
  rcases hb with ⟨rfl, A, rfl⟩ | ⟨g, cap, cur, xs, ev, hh, hcap, hcm, hcs, htk, hfl, hO, hno, hX, hq⟩
  · by_cases hl' : l' = []
    · subst hl'
      have hn : news = [] := List.eq_nil_of_length_eq_zero (by simpa using hf.1)
      subst hn
      have hr := hS.none rfl A 0 0 (Nat.le_refl _)
      have key := g1.add (w' := c.w) (ix := c.n) (n' := c.n + 1) (ln := 0) (k := none) (lo := none) (v := .slice A 0 0) (hv := at0_nil A 0) (ob := .row (q && q') t e []) (fun _ => False)
        (.inl ⟨rfl, rfl, rfl⟩) (fun b hb => hb.elim) (Nat.le_refl _) (fun _ _ _ => rfl) rfl rfl rfl (fun g' hg' => by cases hg')
      obtain ⟨hG, st⟩ := key ⟨h0, (updF_at c.len c.n 0).symm, fun _ g' hg' => (by have := (updF_at c.key c.n none).symm.trans hg'; cases this), [], by simp, .inl ⟨rfl, A, updF_at _ _ _, updF_at _ _ _⟩, fun j y hj => by simp at hj⟩
      refine ⟨.slice A 0 0, c.add c.w c.n none none (.slice A 0 0) 0 (c.n + 1) (at0_nil A 0), hr, hG, ⟨?_, ?_, ?_, A, 0, ?_, Nat.le_refl _⟩, st⟩
      · show hp.length < c.n + 1; omega
      · rw [← nc]; exact (updF_at c.len c.n _).symm
      · rw [← nc]; congr 1; exact (updF_at c.val c.n _).symm
      · rw [← nc]; exact updF_at _ _ _
    · have hpos : 0 < l'.length := List.length_pos_iff.2 hl'
      refine grow A 0 [] rfl (Nat.le_refl _) (by simp; exact hpos) ⟨by simp, fun j y hj => by simp at hj⟩ fun w _ => ?_
      cases A with
      | none => exact run_firstCells_none w i.size 0 0 0
      | some ad => simpa using run_firstCells_some (P := P) w i.size 0 ad 0 0 [] (by simp) (fun j u hu => by simp at hu)
  · have hxlen := hfl.1
    by_cases hroom : l.length + l'.length ≤ cap
    · by_cases hl' : l' = []
      · -- nothing is appended
        subst hl'
        have hn : news = [] := List.eq_nil_of_length_eq_zero (by simpa using hf.1)
        subst hn
        have hr := hS.none rfl (some ⟨g, 0, none⟩) l.length cap hcap
        exact fin c.w g cap cur (fun b => b = g) (fun b hb => by rw [hb]; exact ⟨hO, hno, hX⟩) (Nat.le_refl _) (fun _ _ _ => rfl) rfl rfl rfl (Nat.le_refl _) (g1.ol g hO) (.inr ⟨rfl, hq⟩) hh (by simpa using hcap) hcm hcs xs hfl (by simpa using htk) (by rw [ev]; simpa using hr)
      · have hm2 : (l.length + l'.length) * tsz t ≤ cap * tsz t := Nat.mul_le_mul_right _ hroom
        rw [Nat.add_mul] at hm2
        have hr := hS.room (List.length_pos_iff.2 hl') g l.length cap cur hh hroom (by rw [hsi, hf.1, hcs]; exact hm2)
        have hfn := hf.1
        refine fin (c.w.setRow g (cur.toList.take (l.length * i.size) ++ news ++ cur.toList.drop (l.length * i.size + news.length)).toArray) g cap (cur.toList.take (l.length * i.size) ++ news ++ cur.toList.drop (l.length * i.size + news.length)).toArray (fun b => b = g) (fun b hb => by rw [hb]; exact ⟨hO, hno, hX⟩) (by rw [size_setRow]; exact Nat.le_refl _) (fun b _ hb => setRow_other _ _ _ _ hb) rfl rfl rfl (Nat.le_refl _) (by rw [size_setRow]; exact g1.ol g hO) (.inr ⟨rfl, hq⟩) (hh.set _ (by rw [hsi]; simp; omega)) hroom hcm ?_ xs hfl ?_ (by rw [ev]; exact hr)
        · rw [hsi]; simp; omega
        · rw [hsi]
          have htk2 : cur.toList.take (l.length * tsz t) = xs := htk
          simp only [htk2]
          rw [List.append_assoc, ← List.append_assoc, List.take_append_of_le_length (by simp [hxlen, hfn, Nat.add_mul]), List.take_of_length_le (by simp [hxlen, hfn, Nat.add_mul])]
    · refine grow (some ⟨g, 0, none⟩) cap xs ev hcap (by omega) hfl fun w hw => ?_
      refine run_firstCells_some (P := P) w i.size l.length ⟨g, 0, none⟩ l.length cap xs (by rw [hsi]; exact hxlen) fun j u hu => ?_
      have hcell : c.w.cell? ((⟨g, 0, none⟩ : Addr).add j) = some u := by
        rw [Addr.add_mid, Nat.zero_add]
        rw [← htk, List.getElem?_take] at hu
        split at hu
        · rw [hh.cell]; simpa using hu
        · cases hu
      rcases hw with rfl | rfl
      · exact hcell
      · simpa using hcell

theorem app_row (g1 : Gam W0 X N c fr hp nx a) {v0 vx : Value} {q q' : Bool} {t : Ty} {e T : TypeId} {ie : TI} {l l' : List (El t)} (hb : Base W0 X c v0 q t e l) (hs : SrcV c vx q' t l')
    (hT : P.underlying T = some (.slice e)) (hie : TIok P e ie) {z : Value} (hz : ie.ze = some z) (hro : tsz t = ie.sz) (h0 : 0 < tsz t) (hby : ie.by_ ≤ 100000) (hlen : (l ++ l').length ≤ 1000000000) (ty : TypeId) :
    ∃ v' c', (Builtin.append_ #[T, T] ty #[v0, vx]).run P c.w = .ok v' c'.w ∧ Gam W0 X N c' fr (hp ++ [AO.row (q && q') t e (l ++ l')]) (hp ++ [AO.row (q && q') t e (l ++ l')]).length a ∧ sat (.ow hp.length (tsz t) (l ++ l').length) c' [v'] ∧ Step c c' := by
  obtain ⟨i, hi, hzi, hsz, hbz⟩ := info_of hie hz
  have hsi : i.size = tsz t := hsz.trans hro.symm
  obtain ⟨news, hf, hsrc, hshape⟩ := hs.src hT
  have hsrc' : Src P i.size T vx l'.length news c.w := by rw [hsi]; exact hsrc
  refine app_src g1 hb hf hT hie hz hro h0 hby hlen ty hi hzi hsz hbz ⟨fun hn A m cap hle => ?_, fun hn g sLen sCap cur hg hroom hfit => ?_, fun base sLen sCap olds ho hle hcap h9 hfit => ?_⟩
  · have hl : news = [] := List.eq_nil_of_length_eq_zero (by rw [hf.1, hn, Nat.zero_mul])
    rw [hn, hl] at hsrc'
    exact run_append_nothing (P := P) c.w T T ty e i hT hi A m cap hle vx hsrc'
  · rcases hshape with ⟨hl', m, hv⟩ | ⟨ad, m, hv, hcell⟩
    · subst hl'; exact absurd hn (by simp)
    · rw [hv]
      exact run_append_mk (P := P) c.w T ty e i hT hi g sLen sCap cur hg ad l'.length m news (by rw [hsi]; exact hf.1) hcell (flatC_ones hf) hroom hfit
  · exact run_append_grow_src (P := P) c.w T T ty e i z hT hi hzi base sLen sCap olds ho vx l'.length news hsrc' hcap (by omega) (growslice_fits hcap hfit)

/-- A row that is given up is one that nobody holds. -/
theorem base_of (h : Gam W0 X N c fr hp nx a) {j : Nat} {q : Bool} {t : Ty} {e : TypeId} {l : List (El t)} (hj : getAO hp j = .row q t e l) {c1 : Cx} (st : Step c c1) (hw : c1.w = c.w) (hn : c1.n = c.n) (hb0 : c1.b0 = c.b0) (hk : ∀ i b, c1.key i = some b → i ≠ j ∧ c.key i = some b)
    (hO : ∀ b, c.key j = some b → c1.O b) : Base W0 X c1 (c.val j) q t e l := by
  have hj' := getAO_at hj (by simp)
  have hjn : j < c.n := by rw [h.nc]; exact (List.getElem?_eq_some_iff.1 hj').1
  obtain ⟨h0, h1, hq, xs, h2, h3, h4⟩ := (h.o j _ hj' : rowAt c j q t e l)
  rcases h3 with ⟨e1, A, e2, e3⟩ | ⟨g, cap, cur, e1, e2, e3, e4, e5, e6, e7⟩
  · exact .inl ⟨e1, A, e2⟩
  · refine .inr ⟨g, cap, cur, xs, e1, e3.same (by rw [hw]), e4, e5, e6, e7, flatC_keeps (st.keeps id) ⟨h2, h4⟩, hO g e2, fun i hi e => (hk i g e).1 (h.ob.dj i j g (by omega) hjn (hk i g e).2 e2), h.kx j g hjn e2, fun hqt => by rw [hb0]; exact hq hqt g e2⟩

theorem good_append (h : Gam W0 X N c fr hp nx a) {cl : Call} (hop : o.op = .call cl) (hb : cl.callee = .builtin .append) {T : TypeId} (hts : cl.argTypes.toList = [T, T]) {i ie : TI} (hi : TIok P T i) (hk : i.kd = 3) (hie : TIok P i.el ie) {t : Ty} (hro : ie.ro = some t) (hsz : 0 < ie.sz) (hby : ie.by_ ≤ 100000) {z : Value} (hz : ie.ze = some z)
    {s x : AV} {vs vx : Value} (hargs : cl.args.map a.eval = #[vs, vx]) (hs : sat s c [vs]) (hx : sat x c [vx]) : GoodR P W0 X N c fr hp nx a o (appR hp nx i.el ie t s x) := by
  have hT := hi.sl hk
  have hts' : cl.argTypes = #[T, T] := by rw [← Array.toList_inj]; exact hts
  have h0 : 0 < tsz t := by rw [hie.ro t hro]; exact hsz
  have run : ∀ {w w' : World} {v' : Value}, (Builtin.append_ #[T, T] o.type #[vs, vx]).run P w = .ok v' w' → (execOp a.eval o).run P w = .ok (.value v') w' := fun {w w' v'} hr => by
    refine run_builtin hop hb ?_
    rw [hargs, hts']
    simp only [builtin, Sem.run_bind, hr, Result.andThen_ok, Sem.run_pure]
  unfold appR
  refine srcK_ok (no := R.no) (PP := GoodR P W0 X N c fr hp nx a o) h hx t trivial fun q0 l' ows hsrc0 => ?_
  have hsrc : ∀ c1, Fz c c1 hp ows → SrcV c1 vx (q0 || flatTy t) t l' := fun c1 hz => (hsrc0 c1 hz).flat
  generalize (q0 || flatTy t) = q' at hsrc
  unfold appQ
  -- onto an empty one
  have empty : ∀ A, vs = .slice A 0 0 → GoodR P W0 X N c fr hp nx a o (.act 1 (l'.length ≤ 1000000000) (.ow nx (tsz t) l'.length) (snoc (frz ows hp) (.row q' t i.el l'))) := by
    intro A ev hlen
    obtain ⟨c1, w1, n1, v1, b1, k1, kk, g1, s1, ln1, o1, f1⟩ := h.freeze ows
    obtain ⟨v', c', hr, hG, hsat, _⟩ := app_row (P := P) (q := true) (l := []) (e := i.el) g1 (.inl ⟨rfl, A, ev⟩) (hsrc c1 ⟨s1, w1, f1⟩) hT hie hz (hie.ro t hro) h0 hby (by simpa using hlen) o.type
    rw [w1] at hr
    rw [snoc_eq]
    refine ⟨v', c', run hr, by simpa using hG, ?_⟩
    rw [h.nl, ← ln1]
    simpa using hsat
  split
  · rename_i n m
    cases hn : (Nat.beq n 0 && Nat.beq m 0) with
    | false => trivial
    | true =>
      simp only [Bool.and_eq_true] at hn
      have h1 := Nat.eq_of_beq_eq_true hn.1
      have h2 := Nat.eq_of_beq_eq_true hn.2
      subst h1 h2
      exact empty none (by simpa [sat] using hs)
  · rename_i j k n
    cases hown : hasN ows j with
    | true => trivial
    | false =>
      simp only [cond_false]
      split
      · rename_i q t0 e0 l hj
        cases he : Nat.beq e0 i.el with
        | false => trivial
        | true =>
          have he' := Nat.eq_of_beq_eq_true he
          subst he'
          simp only [cond_true]
          refine castK_ok (no := R.no) (P := GoodR P W0 X N c fr hp nx a o) trivial fun e => ?_
          subst e
          show GoodR P W0 X N c fr hp nx a o (.act 1 ((l ++ l').length ≤ 1000000000) (.ow nx (tsz t0) (l ++ l').length) (snoc (frz ows (setAO hp j .dead)) (.row (q && q') t0 i.el (l ++ l'))))
          intro hlen
          obtain ⟨hjn, hn, ev, _⟩ := hs
          have ev' : vs = c.val j := by simpa using ev
          have hnot := hasN_ok _ _ hown
          obtain ⟨gk, sk, hkill⟩ := h.kill hjn (.inr trivial)
          obtain ⟨c1, w1, n1, v1, b1, k1, kk, g1, s1, ln1, o1, f1⟩ := gk.freeze ows
          have st : Step c c1 := sk.trans s1
          have hold : ∀ i b, c1.key i = some b → i ≠ j ∧ c.key i = some b := fun i b hkb => by
            have := kk.1 i b hkb
            by_cases e : i = j
            · have h' : updF c.key j none i = some b := this
              rw [e, updF_at] at h'; cases h'
            · exact ⟨e, (updF_ne _ _ e).symm.trans this⟩
          have hbase : Base W0 X c1 vs q t0 i.el l := by
            rw [ev']
            exact base_of h hj st w1 n1 b1 hold fun b hkb => kk.2 b (h.ob.kb j b hjn hkb).1 (fun i hi => hkill b hkb i hi)
          have hsrc1 := hsrc c1 ⟨st, w1, fun i hi q t l hh hic => f1 i hi q t l (by
            have hij : i ≠ j := fun e => hnot (e ▸ hi)
            have : getAO (hp.set j .dead) i = getAO hp i := by rw [getAO_eq, getAO_eq, List.getElem?_set_ne (fun e => hij e.symm)]
            rw [this]; exact hh) hic⟩
          obtain ⟨v', c', hr, hG, hsat, _⟩ := app_row (P := P) g1 hbase hsrc1 hT hie hz (hie.ro t0 hro) h0 hby hlen o.type
          rw [w1] at hr
          rw [snoc_eq, setAO_eq]
          refine ⟨v', c', run hr, hG, ?_⟩
          have : nx = (frz ows (hp.set j .dead)).length := by rw [ln1, h.nl]; simp
          rw [this]; exact hsat
      · trivial
  · rename_i q t0 l
    refine castK_ok (no := R.no) (P := GoodR P W0 X N c fr hp nx a o) trivial fun e => ?_
    subst e
    show GoodR P W0 X N c fr hp nx a o (.act 1 ((l ++ l').length ≤ 1000000000) (.rl (q && q') t0 (l ++ l')) (frz ows hp))
    intro hlen
    obtain ⟨A, e, hL⟩ := hs
    have ev : vs = .slice A l.length l.length := by simpa using e
    obtain ⟨c1, w1, n1, v1, b1, k1, kk, g1, s1, ln1, o1, f1⟩ := h.freeze ows
    have hsrc1 := hsrc c1 ⟨s1, w1, f1⟩
    have hL1 := memR_keeps (s1.keeps (q := q) (q' := q) id) hL
    obtain ⟨ti, hti, hzi, hszi, hbz⟩ := info_of hie hz
    have hsi : ti.size = tsz t0 := hszi.trans (hie.ro t0 hro).symm
    obtain ⟨news, hf, hsr, _⟩ := hsrc1.src hT
    have hsr' : Src P ti.size T vx l'.length news c1.w := by rw [hsi]; exact hsr
    have hll : (l ++ l').length = l.length + l'.length := List.length_append
    have hqq : qb (q && q') c1.b0 ≤ qb q c1.b0 := qb_mono (by simp; exact fun h _ => h) (Nat.le_refl _)
    have hqq' : qb (q && q') c1.b0 ≤ qb q' c1.b0 := qb_mono (by simp) (Nat.le_refl _)
    by_cases hl' : l' = []
    · subst hl'
      have hn : news = [] := List.eq_nil_of_length_eq_zero (by simpa using hf.1)
      subst hn
      have hr := run_append_nothing (P := P) c1.w T T o.type i.el ti hT hti A l.length l.length (Nat.le_refl _) vx (by simpa using hsr')
      rw [w1] at hr
      refine ⟨_, c1, by rw [w1]; exact run (by rw [ev]; exact hr), g1, A, l.length, by simp, by simp, by simpa using memR_q hqq hL1⟩
    · have hpos : 0 < l'.length := List.length_pos_iff.2 hl'
      obtain ⟨olds, hol, hc⟩ := memL_flat hL1
      have hfc : ∀ w : World, w = c1.w ∨ w = c1.w.drew → (Builtin.firstCells ti.size l.length (.slice A l.length l.length)).run P w = .ok olds.toArray w := by
        intro w hw
        cases A with
        | none =>
          have hl : l = [] := Classical.byContradiction fun hne => by obtain ⟨ad, e, _⟩ := hc hne; cases e
          subst hl
          have : olds = [] := List.eq_nil_of_length_eq_zero (by simpa using hol.1)
          subst this
          exact run_firstCells_none w ti.size 0 0 0
        | some ad =>
          refine run_firstCells_some w ti.size l.length ad l.length l.length olds (by rw [hsi]; exact hol.1) fun j u hu => ?_
          have hne : l ≠ [] := fun e => by subst e; have := List.eq_nil_of_length_eq_zero (by simpa using hol.1 : olds.length = 0); subst this; simp at hu
          obtain ⟨ad', e, hcell⟩ := hc hne
          injection e with e; subst e
          rcases hw with rfl | rfl
          · exact hcell j u hu
          · simpa using hcell j u hu
      have hfit : (l.length + l'.length) * ti.bytes ≤ 140737488355328 := by rw [hbz, ← hll]; exact len_fits hlen hby
      have hr := run_append_grow_src (P := P) c1.w T T o.type i.el ti z hT hti hzi A l.length l.length olds (hfc _ (.inr rfl)) vx l'.length news hsr' (by omega) (by omega) (growslice_fits (by omega) hfit)
      obtain ⟨w', hw'⟩ : ∃ w', w' = c1.w.drew.alloc (.cells ((olds ++ news).toArray ++ Builtin.zeroCells z.cells (grownCap c1.w (l.length + l'.length) l.length i.el - (l.length + l'.length))) i.el) := ⟨_, rfl⟩
      rw [← hw'] at hr
      have hsz' : w'.heap.size = c1.w.heap.size + 1 := by rw [hw', alloc_size]; rfl
      have hold : ∀ b, b < c1.w.heap.size → w'.heap[b]? = c1.w.heap[b]? := fun b hb => by rw [hw']; exact alloc_old c1.w.drew _ hb
      have hnew : w'.heap[c1.w.heap.size]? = some (.cells ((olds ++ news).toArray ++ Builtin.zeroCells z.cells (grownCap c1.w (l.length + l'.length) l.length i.el - (l.length + l'.length))) i.el (0, 0)) := by rw [hw']; exact alloc_new c1.w.drew _
      have hbel : BelowD c1.w.heap.size c1.w w' := ⟨⟨by rw [hw']; rfl, by rw [hw']; rfl, by rw [hw']; rfl, by omega, hold⟩, by rw [hw']; exact Nat.le_succ _⟩
      have hG := g1.below hbel
      have hge := grownCap_ge c1.w (l.length + l'.length) l.length i.el
      have hflat := flatC_app hol hf hqq hqq'
      have kp : Keeps c1.w c1.O (qb (q && q') c1.b0) w' c1.O (qb (q && q') c1.b0) := ⟨fun _ h _ _ => h, by omega, fun b _ hb _ => hold b hb, fun _ _ _ h => h⟩
      refine ⟨_, c1.to w', by rw [← w1]; exact run (by rw [ev]; exact hr), hG, some ⟨c1.w.heap.size, 0, none⟩, _, by rw [hll], by rw [hll]; exact hge, fun j y hj => ⟨_, rfl, rfl, fun hO => ?_, ?_, ?_, ((olds ++ news).drop (j * tsz t0)).take (tsz t0), ?_, ?_, memE_keeps kp t0 y _ (hflat.2 j y hj)⟩⟩
      · have := g1.ol _ hO; simp at this
      · show c1.w.heap.size < w'.heap.size; omega
      · exact Nat.le_trans (qb_le _ _) g1.ob.bz
      · have hjl : j < (l ++ l').length := (List.getElem?_eq_some_iff.1 hj).1
        have : (j + 1) * tsz t0 ≤ (l ++ l').length * tsz t0 := Nat.mul_le_mul_right _ hjl
        rw [Nat.add_mul] at this
        rw [List.length_take, List.length_drop, hflat.1]; omega
      · intro p u hp
        rw [List.getElem?_take] at hp
        split at hp
        · rw [List.getElem?_drop] at hp
          have hlt := (List.getElem?_eq_some_iff.1 hp).1
          have hget : ((olds ++ news).toArray ++ Builtin.zeroCells z.cells (grownCap c1.w (l.length + l'.length) l.length i.el - (l.length + l'.length))).toList[j * tsz t0 + p]? = some u := by
            rw [Array.toList_append, List.getElem?_append_left hlt]; exact hp
          show World.cell? w' _ = _
          unfold World.cell?
          simp only [hnew]
          simp only [Nat.zero_add, Option.isSome_none, Bool.false_eq_true, if_false]
          rw [← Array.getElem?_toList]
          exact hget
        · cases hp
  · obtain ⟨A, e⟩ := hs
    exact empty A (by simpa using e)
  · trivial

theorem zero_src {T tx e : TypeId} {ie : TI} {kx : IntKind} {n : Int} (hT : P.underlying T = some (.slice e)) (htx : P.underlying tx = some (.int .i64)) (hie : TIok P e ie) {z : Value} (hz : ie.ze = some z) (h0 : 0 < ie.sz) (ty : TypeId)
    {i : TypeInfo} (hi : P.info? e = some i) (hzi : i.zero = some z) (hsz : i.size = ie.sz) (hn : 0 ≤ n) (hn9 : n ≤ 1000000000) (hby : ie.by_ ≤ 100000) (hbz : i.bytes = ie.by_) (hone : ∀ v ∈ (Builtin.zeroCells z.cells n.toNat).toList, v.oneCell' = true) (w : World) :
    AppSrc P T tx ty e i z (.int kx n) n.toNat (Builtin.zeroCells z.cells n.toNat).toList w := by
  have hw : IntKind.i64.wrap n = n := by rw [IntKind.wrap_i64]; omega
  have hneg : ¬ n < 0 := by omega
  have hzs := hie.zs z hz
  have hb48 : ¬ (281474976710656 < n * (i.bytes : Int)) := by
    have h1 : n.toNat * i.bytes ≤ 1000000000 * 100000 := by rw [hbz]; exact Nat.mul_le_mul (by omega) hby
    have h2 : (n.toNat : Int) * (i.bytes : Int) = ((n.toNat * i.bytes : Nat) : Int) := by rw [Int.natCast_mul]
    rw [Int.toNat_of_nonneg hn] at h2
    omega
  refine ⟨fun h0' A m cap hle => ?_, fun hpos g sLen sCap cur hg hroom hfit => ?_, fun base sLen sCap olds ho hle hcap h9 hfit => ?_⟩
  · have hn0 : n = 0 := by omega
    subst hn0
    cases A <;> simp [Builtin.append_, run_underlying hT, run_underlying htx, sizeOf, typeInfo, hi, asInt, asIntOf, hw, hle, storeCells]
  · have hst := run_storeCells_mk P g (sLen * i.size) e (Builtin.zeroCells z.cells n.toNat).toList 0 cur w hg (by simpa using hfit) hone
    simp only [Nat.add_zero] at hst
    have hns : ¬ (n.toNat = 0 ∨ i.size = 0) := by omega
    simp [Builtin.append_, run_underlying hT, run_underlying htx, sizeOf, typeInfo, zeroValue, hi, hzi, asInt, asIntOf, hw, hneg, hb48, hroom, hns, Addr.add_lit, hst]
    intro hc
    rcases Nat.mul_eq_zero.1 hc with hc | hc <;> omega
  · by_cases hk : n.toNat = 0
    · omega
    · have := Lib.run_append_grow_zeros (P := P) w T tx ty e i z kx .i64 hT htx hi hzi base sLen sCap olds ho n.toNat (by omega) (by omega) hcap (by omega) (by
        have h1 : n.toNat * i.bytes ≤ 1000000000 * 100000 := by rw [hbz]; exact Nat.mul_le_mul (by omega) hby
        omega) (growslice_fits hcap hfit)
      rw [Int.toNat_of_nonneg hn] at this
      rw [this]
      rw [show (olds ++ (Builtin.zeroCells z.cells n.toNat).toList).toArray = olds.toArray ++ Builtin.zeroCells z.cells n.toNat by apply Array.ext'; simp]

/-! ### make -/
/-- A row in a new block. -/
theorem Gam.made (h : Gam W0 X N c fr hp nx a) {ix n' : Nat} {hp' : List AO} {q : Bool} {t : Ty} {e : TypeId} {l : List (El t)} {cur : Array Value} {cap : Nat} (h0 : 0 < tsz t) (hf : flatC c (qb q c.b0) t l (cur.toList.take (l.length * tsz t))) (hcap : l.length ≤ cap) (hcm : cap ≤ maxLen) (hcs : cur.size = cap * tsz t)
    (hix : (ix = c.n ∧ n' = c.n + 1 ∧ hp' = hp ++ [.row q t e l]) ∨ (hp[ix]? = some .void ∧ n' = c.n ∧ hp' = hp.set ix (.row q t e l))) :
    ∃ c', c'.w = c.w.alloc (.cells cur e) ∧ Gam W0 X N c' fr hp' hp'.length a ∧ sat (.ow ix (tsz t) l.length) c' [.slice (some ⟨c.w.heap.size, 0, none⟩) l.length cap] := by
  have key := h.add (w' := c.w.alloc (.cells cur e)) (ix := ix) (n' := n') (ln := l.length) (k := some c.w.heap.size) (lo := none) (v := .slice (some ⟨c.w.heap.size, 0, none⟩) l.length cap) (hv := at0_slice _ _ _) (ob := .row q t e l) (fun _ => False) hix (fun b hb => hb.elim)
    (by rw [alloc_size]; omega) (fun b hb _ => alloc_old _ _ hb) rfl rfl rfl (fun g hg => by injection hg with hg; subst hg; rw [alloc_size]; omega)
  have hin : ix < n' := by
    rcases hix with ⟨e1, e2, _⟩ | ⟨e1, e2, _⟩
    · omega
    · have := (List.getElem?_eq_some_iff.1 e1).1; have := h.nc; omega
  have kp : Keeps c.w c.O (qb q c.b0) (c.w.alloc (.cells cur e)) (fun b => c.O b ∨ some c.w.heap.size = some b) (qb q c.b0) := ⟨fun b hO hb _ h' => by
    rcases h' with h' | h'
    · exact hO h'
    · injection h' with h'; omega, by rw [alloc_size]; omega, fun b _ hb _ => alloc_old _ _ hb, fun _ _ _ h => h⟩
  obtain ⟨hG, _⟩ := key ⟨h0, (updF_at _ _ _).symm, fun _ g hg => by
      have := (updF_at c.key ix (some c.w.heap.size)).symm.trans hg
      injection this with this; subst this; exact h.ob.bz, _, hf.1, .inr ⟨c.w.heap.size, cap, cur, updF_at _ _ _, updF_at _ _ _, .of (alloc_new _ _), hcap, hcm, hcs, rfl⟩, fun j y hj => memE_keeps kp t y _ (hf.2 j y hj)⟩
  exact ⟨_, rfl, hG, hin, (updF_at _ _ _).symm, by congr 1; exact (updF_at _ _ _).symm, some ⟨c.w.heap.size, 0, none⟩, cap, updF_at _ _ _, hcap⟩

theorem madeCells_get (z : Array Value) (n p : Nat) (hp : p < n * z.size) : (madeCells z (n * z.size)).toList[p]? = z.toList[p % z.size]? := by
  have hz : 0 < z.size := by
    rcases Nat.eq_zero_or_pos z.size with h | h
    · rw [h, Nat.mul_zero] at hp; omega
    · exact h
  have hm := Nat.mod_lt p hz
  simp [madeCells, hp, hm]
theorem made_flat {c : Cx} {b : Nat} {t : Ty} {e : El t} {z : Array Value} (hz : z.size = tsz t) (hE : memE c.w c.O b t e z.toList) (n m : Nat) (hnm : n ≤ m) : flatC c b t (List.replicate n e) ((madeCells z (m * tsz t)).toList.take ((List.replicate n e).length * tsz t)) := by
  have hle : n * tsz t ≤ m * tsz t := Nat.mul_le_mul_right _ hnm
  have hlen : (madeCells z (m * tsz t)).toList.length = m * tsz t := by simp [size_madeCells]
  refine ⟨by rw [List.length_take, hlen, List.length_replicate]; omega, fun j y hj => ?_⟩
  obtain ⟨hjn, hy⟩ : j < n ∧ y = e := by
    rw [List.getElem?_replicate] at hj
    split at hj
    · exact ⟨by assumption, by injection hj with hj; exact hj.symm⟩
    · cases hj
  subst hy
  have hm2 : (j + 1) * tsz t ≤ n * tsz t := Nat.mul_le_mul_right _ hjn
  rw [Nat.add_mul] at hm2
  have : ((((madeCells z (m * tsz t)).toList.take ((List.replicate n y).length * tsz t)).drop (j * tsz t)).take (tsz t)) = z.toList := by
    refine List.ext_getElem? fun p => ?_
    rw [List.getElem?_take]
    by_cases hp : p < tsz t
    · rw [if_pos hp, List.getElem?_drop, List.getElem?_take, if_pos (by simp; omega), ← hz, madeCells_get _ _ _ (by rw [hz]; omega)]
      congr 1
      rw [Nat.mul_comm, Nat.mul_add_mod, Nat.mod_eq_of_lt (by omega)]
    · rw [if_neg hp]
      exact (List.getElem?_eq_none (by simp; omega)).symm
  rw [this]; exact hE

theorem good_appZ (h : Gam W0 X N c fr hp nx a) {cl : Call} (hop : o.op = .call cl) (hb : cl.callee = .builtin .append) {T tx : TypeId} (hts : cl.argTypes.toList = [T, tx]) {i ie : TI} (hi : TIok P T i) (hk : i.kd = 3) (hie : TIok P i.el ie) {it : TI} (hit : TIok P tx it) (hik : it.ik = some .i64) {t : Ty} (hro : ie.ro = some t) (hsz : 0 < ie.sz) (hby : ie.by_ ≤ 100000) {z : Value} (hz : ie.ze = some z)
    {s : AV} {kx : IntKind} {n : Int} {vs : Value} (hargs : cl.args.map a.eval = #[vs, .int kx n]) (hs : sat s c [vs]) : GoodR P W0 X N c fr hp nx a o (appZ hp nx i.el t z s n) := by
  have hT := hi.sl hk
  have htx := hit.ik _ hik
  have hts' : cl.argTypes = #[T, tx] := by rw [← Array.toList_inj]; exact hts
  have h0 : 0 < tsz t := by rw [hie.ro t hro]; exact hsz
  have run : ∀ {w w' : World} {v' : Value}, (Builtin.append_ #[T, tx] o.type #[vs, .int kx n]).run P w = .ok v' w' → (execOp a.eval o).run P w = .ok (.value v') w' := fun {w w' v'} hr => by
    refine run_builtin hop hb ?_
    rw [hargs, hts']
    simp only [builtin, Sem.run_bind, hr, Result.andThen_ok, Sem.run_pure]
  obtain ⟨ti, hti, hzi, hszi, hbz⟩ := info_of hie hz
  have hzt : z.cells.size = tsz t := (hie.zs z hz).trans (hie.ro t hro).symm
  unfold appZ
  refine decK_ok (c := c) (no := R.no) (P := GoodR P W0 X N c fr hp nx a o) trivial t _ z.cells.toList _ (ofValues_ok c _) fun q' y hE => ?_
  have hzc : ∀ m, (Builtin.zeroCells z.cells m).toList = (madeCells z.cells (m * tsz t)).toList.take ((List.replicate m y).length * tsz t) := fun m => by
    have : Builtin.zeroCells z.cells m = madeCells z.cells (m * tsz t) := by rw [← hzt]; rfl
    rw [this, List.take_of_length_le (by simp [size_madeCells])]
  have flat : ∀ c1, Step c c1 → c1.w = c.w → flatC c1 (qb q' c1.b0) t (List.replicate n.toNat y) (Builtin.zeroCells z.cells n.toNat).toList := fun c1 st hw => by
    rw [hzc]
    exact made_flat hzt (memE_keeps (st.keeps id) t _ _ hE) n.toNat n.toNat (Nat.le_refl _)
  cases s with
  | v x =>
    cases x <;> try trivial
    rename_i A m b
    cases A with
    | some ad => trivial
    | none =>
      simp only []
      cases hn : (Nat.beq m 0 && Nat.beq b 0) with
      | false => trivial
      | true =>
        simp only [Bool.and_eq_true] at hn
        have h1 := Nat.eq_of_beq_eq_true hn.1
        have h2 := Nat.eq_of_beq_eq_true hn.2
        subst h1 h2
        rintro ⟨hn0, hlen⟩
        have ev : vs = .slice none 0 0 := by simpa [sat] using hs
        have hlen' : n.toNat ≤ 1000000000 := by simpa using hlen
        have hf := flat c (Step.refl c) rfl
        obtain ⟨v', c', hr, hG, hsat, _⟩ := app_src (P := P) (q := true) (l := []) (l' := List.replicate n.toNat y) h (.inl ⟨rfl, none, ev⟩) hf hT hie hz (hie.ro t hro) h0 hby (by simpa using hlen') o.type hti hzi hszi hbz (by
          rw [List.length_replicate]
          exact zero_src (kx := kx) hT htx hie hz hsz o.type hti hzi hszi hn0 (by omega) hby hbz (flatC_ones hf) c.w)
        refine ⟨v', c', run hr, ?_, ?_⟩
        · rw [snoc_eq]; simpa using hG
        · rw [h.nl]; simpa using hsat
  | ow j k m =>
    simp only []
    split
    · rename_i q t0 e0 l hj
      cases he : Nat.beq e0 i.el with
      | false => trivial
      | true =>
        have he' := Nat.eq_of_beq_eq_true he
        subst he'
        simp only [cond_true]
        refine castK_ok (no := R.no) (P := GoodR P W0 X N c fr hp nx a o) trivial fun e => ?_
        subst e
        rintro ⟨hn0, hlen⟩
        obtain ⟨hjn, hn, ev, _⟩ := hs
        have ev' : vs = c.val j := by simpa using ev
        obtain ⟨gk, sk, hkill⟩ := h.kill hjn (.inr trivial)
        have hold : ∀ i b, (updF c.key j none) i = some b → i ≠ j ∧ c.key i = some b := fun i b hkb => by
          by_cases e : i = j
          · rw [e, updF_at] at hkb; cases hkb
          · exact ⟨e, (updF_ne _ _ e).symm.trans hkb⟩
        have hbase : Base W0 X { c with key := updF c.key j none } vs q t0 i.el l := by
          rw [ev']
          exact base_of h hj sk rfl rfl rfl hold fun b hkb => (h.ob.kb j b hjn hkb).1
        have hlen' : (l ++ List.replicate n.toNat y).length ≤ 1000000000 := hlen
        have hf := flat { c with key := updF c.key j none } sk rfl
        obtain ⟨v', c', hr, hG, hsat, _⟩ := app_src (P := P) gk hbase hf hT hie hz (hie.ro t0 hro) h0 hby hlen' o.type hti hzi hszi hbz (by
          rw [List.length_replicate]
          exact zero_src (kx := kx) hT htx hie hz hsz o.type hti hzi hszi hn0 (by simp at hlen'; omega) hby hbz (flatC_ones hf) c.w)
        refine ⟨v', c', run hr, ?_, ?_⟩
        · rw [snoc_eq, setAO_eq]; exact hG
        · have : nx = (hp.set j .dead).length := by rw [h.nl]; simp
          rw [this]; exact hsat
    · trivial
  | _ => trivial

theorem good_makeSlice (h : Gam W0 X N c fr hp nx a) (T : TypeId) (x y : Operand) (hop : o.op = .makeSlice T x y) {i ie : TI} (hi : TIok P T i) (hk : i.kd = 3) (hie : TIok P i.el ie) {t : Ty} (hro : ie.ro = some t) (hsz : 0 < ie.sz) (hby : ie.by_ ≤ 100000) {z : Value} (hz : ie.ze = some z)
    {kx ky : IntKind} {n m : Int} (hx : a.eval x = .int kx n) (hy : a.eval y = .int ky m) :
    GoodR P W0 X N c fr hp nx a o (decK t (ofValues z.cells.toList) .no fun q e => .act 1 (0 ≤ n ∧ n ≤ m ∧ m ≤ 1000000000) (.ow nx (tsz t) n.toNat) (snoc hp (.row q t i.el (List.replicate n.toNat e)))) := by
  refine decK_ok (c := c) (no := R.no) (P := GoodR P W0 X N c fr hp nx a o) trivial t _ z.cells.toList _ (ofValues_ok c _) fun q e hE => ?_
  rintro ⟨h0, h1, h2⟩
  obtain ⟨ti, hti, hzi, hszi, hbz⟩ := info_of hie hz
  have hts := hie.ro t hro
  have hzs := hie.zs z hz
  have hfit : (ti.bytes : Int) * m ≤ 281474976710656 := by
    have : ti.bytes * m.toNat ≤ 140737488355328 := by rw [hbz, Nat.mul_comm]; exact len_fits (by omega) hby
    have h3 : ((ti.bytes * m.toNat : Nat) : Int) = (ti.bytes : Int) * m := by rw [Int.natCast_mul, Int.toNat_of_nonneg (by omega)]
    omega
  have hr := run_make (P := P) c.w T i.el ti z (hi.sl hk) hti hzi kx ky n m h0 h1 hfit (by omega)
  have hrun : (execOp a.eval o).run P c.w = .ok (.value (.slice (some ⟨c.w.heap.size, 0, none⟩) n.toNat m.toNat)) (c.w.alloc (.cells (madeCells z.cells (m.toNat * ti.size)) i.el)) := by
    unfold execOp; rw [hop]
    simp only [hx, hy, Sem.run_bind, hr, Result.andThen_ok, Sem.run_pure]
  have hsi : ti.size = tsz t := hszi.trans hts.symm
  have hzt : z.cells.size = tsz t := hzs.trans hts.symm
  rw [hsi] at hrun
  have hmn : n.toNat ≤ m.toNat := by omega
  obtain ⟨c', hw, hG, hs⟩ := h.made (e := i.el) (q := q) (l := List.replicate n.toNat e) (cap := m.toNat) (cur := madeCells z.cells (m.toNat * tsz t)) (by rw [hts]; exact hsz) (made_flat hzt hE n.toNat m.toNat hmn) (by simp; omega) (by unfold maxLen; omega) (size_madeCells _ _) (.inl ⟨rfl, rfl, rfl⟩)
  rw [snoc_eq]
  refine ⟨_, c', by rw [hw]; exact hrun, hG, ?_⟩
  have : nx = c.n := nx_n h
  rw [this]
  simpa using hs

/-! ### clear -/
theorem Gam.setO (h : Gam W0 X N c fr hp nx a) {i : Nat} {ob : AO} (hob : osat ob c i) : Gam W0 X N c fr (hp.set i ob) nx a := by
  have := h.turn (c' := c) (hp' := hp.set i ob) (Step.refl c) ⟨by simpa using h.nc, fun j o ho => ?_, h.ob.dj, h.ob.kb, h.ob.ol, h.ob.bz⟩ h.kx h.oo h.oz rfl rfl rfl (fun _ _ _ => rfl) (Nat.le_refl _)
  · rw [List.length_set, ← h.nl] at this; exact this
  · by_cases hij : i = j
    · subst hij
      have hl : i < hp.length := by have := (List.getElem?_eq_some_iff.1 ho).1; simpa using this
      have : o = ob := by simpa [hl] using ho.symm
      subst this; exact hob
    · rw [List.getElem?_set_ne hij] at ho
      exact h.o j o ho
theorem flatC_take {b : Nat} {t : Ty} {l : List (El t)} {xs : List Value} (h : flatC c b t l xs) (n : Nat) (hn : n ≤ l.length) : flatC c b t (l.take n) (xs.take (n * tsz t)) := by
  have hm : n * tsz t ≤ l.length * tsz t := Nat.mul_le_mul_right _ hn
  refine ⟨by rw [List.length_take, List.length_take, h.1, Nat.min_eq_left hn, Nat.min_eq_left hm], fun j y hj => ?_⟩
  rw [List.getElem?_take] at hj
  split at hj
  · rename_i hjn
    have hm2 : (j + 1) * tsz t ≤ n * tsz t := Nat.mul_le_mul_right _ hjn
    rw [Nat.add_mul] at hm2
    rw [List.drop_take, List.take_take, Nat.min_eq_left (by omega)]
    exact h.2 j y hj
  · cases hj
theorem flatC_drop {b : Nat} {t : Ty} {l : List (El t)} {xs : List Value} (h : flatC c b t l xs) (n : Nat) : flatC c b t (l.drop n) (xs.drop (n * tsz t)) := by
  refine ⟨by rw [List.length_drop, List.length_drop, h.1, Nat.sub_mul], fun j y hj => ?_⟩
  rw [List.getElem?_drop] at hj
  rw [List.drop_drop, ← Nat.add_mul]
  exact h.2 _ y hj
theorem rowAt_weak {j : Nat} {q q' : Bool} {t : Ty} {e : TypeId} {l : List (El t)} (h : rowAt c j q t e l) : rowAt c j (q && q') t e l := by
  obtain ⟨h0, h1, hq, xs, h2, h3, h4⟩ := h
  refine ⟨h0, h1, fun hqt => hq (by revert hqt; cases q <;> simp), xs, h2, h3, fun j y hj => memE_q (qb_mono (by simp; exact fun h _ => h) (Nat.le_refl _)) (h4 j y hj)⟩

theorem take_splice {α : Type} (L zs : List α) (p N : Nat) (h : p + zs.length ≤ N) (hN : N ≤ L.length) : (L.take p ++ zs ++ L.drop (p + zs.length)).take N = (L.take N).take p ++ (zs ++ (L.take N).drop (p + zs.length)) := by
  refine List.ext_getElem? fun n => ?_
  rw [← List.append_assoc, upd_get _ _ _ _ (by rw [List.length_take]; omega), List.getElem?_take, upd_get _ _ _ _ (by omega), List.getElem?_take]
  by_cases h1 : n < N
  · simp only [if_pos h1]
  · rw [if_neg h1, if_neg h1, if_neg (by omega), if_neg (by omega)]
theorem good_clear (h : Gam W0 X N c fr hp nx a) {cl : Call} (hop : o.op = .call cl) (hb : cl.callee = .builtin .clear) {t : TypeId} {ts : List TypeId} (hts : cl.argTypes.toList = t :: ts) {i ie : TI} (hi : TIok P t i) (hk : i.kd = 3) (hie : TIok P i.el ie) {z : Value} (hz : ie.ze = some z) {x : AV} {vx : Value} (hargs : cl.args.map a.eval = #[vx]) (hx : sat x c [vx]) :
    GoodR P W0 X N c fr hp nx a o (clearR hp ie.sz z x) := by
  have run : ∀ {w w' : World} {v' : Value}, (Builtin.clear_ cl.argTypes o.type #[vx]).run P w = .ok v' w' → (execOp a.eval o).run P w = .ok (.value v') w' := fun {w w' v'} hr => by
    refine run_builtin hop hb ?_
    rw [hargs]
    simp only [builtin, Sem.run_bind, hr, Result.andThen_ok, Sem.run_pure]
  have ht : cl.argTypes[0]? = some t := by rw [← Array.getElem?_toList, hts]; rfl
  have hu := hi.sl hk
  obtain ⟨ti, hti, hzi, hszi, hbz⟩ := info_of hie hz
  cases x with
  | ws j k' lo n =>
    simp only [clearR]
    split
    · rename_i q τ e l hj
      cases hkk : (Nat.beq (tsz τ) ie.sz && Nat.beq k' ie.sz) with
      | false => trivial
      | true =>
        simp only [Bool.and_eq_true] at hkk
        have hk1 := Nat.eq_of_beq_eq_true hkk.1
        have hk2 := Nat.eq_of_beq_eq_true hkk.2
        have hk3 : k' = tsz τ := hk2.trans hk1.symm
        subst hk3
        simp only [cond_true]
        have hzt : z.cells.size = tsz τ := (hie.zs z hz).trans hk1.symm
        refine decK_ok (c := c) (no := R.no) (P := GoodR P W0 X N c fr hp nx a o) trivial τ _ z.cells.toList _ (ofValues_ok c _) fun q' y hE => ?_
        intro hjl
        obtain ⟨hjn, hle, A, m, A', hv, hm, hA', ev⟩ := hx
        have ev' : vx = .slice A' n (m - lo) := by simpa using ev
        have hrow : rowAt c j q τ e l := h.o j _ (getAO_at hj (by simp))
        have hln : l.length = c.len j := hrow.2.1
        by_cases hn : n = 0
        · subst hn
          have hcl : clearL l lo 0 y = l := by simp [clearL]
          rw [hcl]
          refine ⟨.tuple #[], c, run ?_, h.setO (rowAt_weak hrow), ⟨#[], rfl, rfl⟩⟩
          rw [ev']
          unfold Builtin.clear_
          simp only [ht, List.getElem?_toArray, List.getElem?_cons_zero, Sem.run_bind, run_underlying hu, Result.andThen_ok]
          cases A' <;> rfl
        · obtain ⟨h0, h1, hq, xs, h2, h3, h4⟩ := hrow
          rcases h3 with ⟨e1, _⟩ | ⟨g, cap, cur, e1, e2, e3, e4, e5, e6, e7⟩
          · subst e1; simp at hln; omega
          · rw [e1] at hv
            injection hv with hv1 hv2 hv3
            have hA2 := hA' (by omega)
            rw [← hv1] at hA2
            have hA3 : A' = some ⟨g, lo * tsz τ, none⟩ := by rw [hA2]; simp [Addr.add_mid]
            have hzc : Builtin.zeroCells z.cells n = madeCells z.cells (n * tsz τ) := by rw [← hzt]; rfl
            have hflatz := made_flat (c := c) (b := qb q' c.b0) hzt hE n n (Nat.le_refl _)
            rw [List.take_of_length_le (by simp [size_madeCells]), ← hzc] at hflatz
            have hzl : (Builtin.zeroCells z.cells n).toList.length = n * tsz τ := by rw [hzc]; simp [size_madeCells]
            have hm1 : (lo + n) * tsz τ ≤ l.length * tsz τ := Nat.mul_le_mul_right _ (by omega)
            have hm2 : l.length * tsz τ ≤ cap * tsz τ := Nat.mul_le_mul_right _ e4
            rw [Nat.add_mul] at hm1
            have hst := run_storeCells_mk P g (lo * tsz τ) e (Builtin.zeroCells z.cells n).toList 0 cur c.w e3 (by rw [hzl, e6]; omega) (flatC_ones hflatz)
            simp only [Nat.add_zero, hzl] at hst
            generalize hcur' : (cur.toList.take (lo * tsz τ) ++ (Builtin.zeroCells z.cells n).toList ++ cur.toList.drop (lo * tsz τ + n * tsz τ)).toArray = cur' at hst
            have hcs : cur'.size = cur.size := by
              rw [← hcur']; simp only [List.size_toArray, List.length_append, List.length_take, List.length_drop, hzl, Array.length_toList]; omega
            have hold : flatC c (qb q c.b0) τ l (cur.toList.take (l.length * tsz τ)) := ⟨by rw [e7]; exact h2, fun j y hj => by rw [e7]; exact h4 j y hj⟩
            have hnew : flatC c (qb (q && q') c.b0) τ (clearL l lo n y) (cur'.toList.take ((clearL l lo n y).length * tsz τ)) := by
              have hlen : (clearL l lo n y).length = l.length := by simp [clearL]; omega
              have hp1 := flatC_take hold lo (by omega)
              have hp2 := flatC_drop hold (lo + n)
              have hq1 : qb (q && q') c.b0 ≤ qb q c.b0 := qb_mono (by simp; exact fun h _ => h) (Nat.le_refl _)
              have hq2 : qb (q && q') c.b0 ≤ qb q' c.b0 := qb_mono (by simp) (Nat.le_refl _)
              have := flatC_app hp1 (flatC_app hflatz hp2 hq2 hq1) hq1 (Nat.le_refl _)
              rw [hlen]
              have hcL : cur.toList.length = cap * tsz τ := by rw [Array.length_toList]; exact e6
              have he : cur'.toList.take (l.length * tsz τ) = List.take (lo * tsz τ) (List.take (l.length * tsz τ) cur.toList) ++ ((Builtin.zeroCells z.cells n).toList ++ List.drop ((lo + n) * tsz τ) (List.take (l.length * tsz τ) cur.toList)) := by
                rw [← hcur']
                have := take_splice cur.toList (Builtin.zeroCells z.cells n).toList (lo * tsz τ) (l.length * tsz τ) (by rw [hzl]; omega) (by omega)
                rw [hzl] at this
                rw [Nat.add_mul]
                exact this
              rw [he]; exact this
            have hclen : (clearL l lo n y).length = l.length := by simp [clearL]; omega
            obtain ⟨hg, _⟩ := h.setW (w' := c.w.setRow g cur') (ob := .row (q && q') τ e (clearL l lo n y)) hjn e2 (size_setRow _ _ _) (fun k hkb => setRow_other _ _ _ _ hkb) rfl rfl rfl (fun st => by
              have hk := flatC_keeps (c' := c.to (c.w.setRow g cur')) (st.keeps (q := q && q') (q' := q && q') id) hnew
              exact ⟨h0, by rw [hclen]; exact h1, fun hqt => hq (by revert hqt; cases q <;> simp), _, hk.1, .inr ⟨g, cap, cur', by rw [hclen]; exact e1, e2, e3.set _ hcs, by rw [hclen]; exact e4, e5, by rw [hcs]; exact e6, rfl⟩, hk.2⟩)
            refine ⟨.tuple #[], _, run ?_, hg, ⟨#[], rfl, rfl⟩⟩
            rw [ev', hA3]
            unfold Builtin.clear_
            have hzv : (zeroValue i.el).run P c.w = .ok z c.w := by simp [zeroValue, typeInfo, hti, hzi, Sem.run_bind]
            simp only [ht, List.getElem?_toArray, List.getElem?_cons_zero, Sem.run_bind, run_underlying hu, Result.andThen_ok]
            obtain ⟨n', rfl⟩ : ∃ n', n = n' + 1 := ⟨n - 1, by omega⟩
            simp only [Sem.run_bind, hzv, Result.andThen_ok, hst, Sem.run_pure]
            rfl
    · trivial
  | _ => trivial

/-! ### Literals -/
def repV (zs : List Value) : Nat → List Value
  | 0 => []
  | n + 1 => zs ++ repV zs n
theorem repV_len (zs : List Value) : ∀ n, (repV zs n).length = n * zs.length
  | 0 => by simp [repV]
  | n + 1 => by simp [repV, repV_len zs n, Nat.add_mul]; omega
theorem repV_get (zs : List Value) : ∀ (n p : Nat), p < n * zs.length → (repV zs n)[p]? = zs[p % zs.length]?
  | 0, p, h => by simp at h
  | n + 1, p, h => by
    simp only [repV]
    by_cases hp : p < zs.length
    · rw [List.getElem?_append_left hp, Nat.mod_eq_of_lt hp]
    · rw [List.getElem?_append_right (by omega), repV_get zs n _ (by rw [Nat.add_mul] at h; omega), ← Nat.mod_eq_sub_mod (by omega)]
theorem made_rep (z : Array Value) (n : Nat) : (madeCells z (n * z.size)).toList = repV z.toList n := by
  refine List.ext_getElem? fun p => ?_
  have hl : (madeCells z (n * z.size)).toList.length = n * z.size := by simp [size_madeCells]
  by_cases hp : p < n * z.size
  · rw [madeCells_get _ _ _ hp, repV_get _ _ _ (by simpa using hp)]
    simp
  · rw [List.getElem?_eq_none (by omega), List.getElem?_eq_none (by rw [repV_len]; simpa using hp)]
theorem lit_ok {c : Cx} (zs : List Value) : ∀ (n : Nat) (acc : AV) (vs : List Value), sat acc c vs → sat (litCells n (ofValues zs) acc) c (repV zs n ++ vs)
  | 0, acc, vs, h => h
  | n + 1, acc, vs, h => by
    have := lit_ok zs n _ _ (sat_app (ofValues zs) ⟨zs.length, ofValues_len zs⟩ (ofValues_ok c zs) h)
    rw [← List.append_assoc] at this
    have he : repV zs n ++ zs = repV zs (n + 1) := by
      have : ∀ n, repV zs n ++ zs = zs ++ repV zs n := fun n => by
        induction n with
        | zero => simp [repV]
        | succ n ih => simp only [repV, List.append_assoc, ih]
      rw [this]; rfl
    rw [he] at this
    exact this
where ofValues_len : ∀ (l : List Value), lenIs (ofValues l) l.length = true
  | [] => rfl
  | _ :: r => ofValues_len r

theorem fold_size (off : Nat) : ∀ (xs : List (Value × Nat)) (cs : Array Value), (xs.foldl (fun (cs : Array Value) (p : Value × Nat) => cs.setIfInBounds (off + p.2) p.1) cs).size = cs.size
  | [], _ => rfl
  | x :: r, cs => by rw [List.foldl_cons, fold_size off r]; simp
theorem fill_size (pl : Nat → Option (Nat × Nat)) : ∀ (parts : List (Nat × Value)) {cs cs' : Array Value}, Instr.fill pl cs parts = some cs' → cs'.size = cs.size
  | [], cs, cs', h => by injection h with h; rw [h]
  | (i, v) :: r, cs, cs', h => by
    simp only [Instr.fill] at h
    split at h
    · cases h
    · rename_i off sz _
      split at h
      · cases h
      · rw [fill_size pl r h, ← Array.foldl_toList]
        exact fold_size off _ cs

theorem run_lit {T e : TypeId} {i : TypeInfo} {z : Value} (ht : P.underlying T = some (.slice e)) (hi : P.info? e = some i) (hz : i.zero = some z) (hzs : z.cells.size = i.size) {n : Nat} (hn : n ≤ 10000) (hs : i.size ≤ 1000) (h0 : 0 < i.size) {parts : Array (Nat × Value)} {cells : Array Value}
    (h : Instr.fill (fun j => some (j * i.size, i.size)) (madeCells z.cells (n * i.size)) parts.toList = some cells) (w : World) :
    (Instr.buildSlice T n parts).run P w = .ok (.slice (some ⟨w.heap.size, 0, none⟩) n n) (w.alloc (.cells cells e)) := by
  by_cases hn0 : n = 0
  · subst hn0
    have h' : Instr.fill (fun j => some (j * i.size, i.size)) #[] parts.toList = some cells := by
      rw [← h]; congr 1; simp [madeCells]
    have e0 : (Array.map (fun _ : Nat => (default : Value)) (Array.range 0)) = #[] := by simp
    simp [Instr.buildSlice, run_underlying ht, sizeOf, typeInfo, hi, hz, Sem.run_bind, newRow]
    rw [e0, h']
    rfl
  · have hle : n * i.size ≤ 10000 * 1000 := Nat.mul_le_mul hn hs
    exact run_buildSlice w T e n parts cells i z ht hi hz (by omega) (by intro h; rcases Nat.mul_eq_zero.1 h with h | h <;> omega) h

theorem good_lit (h : Gam W0 X N c fr hp nx a) (T : TypeId) (n : Nat) (parts : Array (Nat × Operand)) (hop : o.op = .buildSlice T n parts) {i ie : TI} (hi : TIok P T i) (hk : i.kd = 3) (hie : TIok P i.el ie) {t : Ty} (hro : ie.ro = some t) (hsz : 0 < ie.sz) (hn : n ≤ 10000) (hsl : ie.sz ≤ 1000) {z : Value} (hz : ie.ze = some z)
    (hx : ∀ p ∈ parts.toList, sat (ρ p.2) c [a.eval p.2]) {l : AV} (hl : fillA (fun j => some (j * ie.sz, ie.sz)) (litCells n (ofValues z.cells.toList) .nil) (parts.toList.map fun p => (p.1, ρ p.2)) = some l) {q : Bool} {xs : List (El t)} (hxs : decO t n (unow hp l) = some (q, xs)) :
    (∃ c', (execOp a.eval o).run P c.w = .ok (.value (.slice (some ⟨c.w.heap.size, 0, none⟩) n n)) c'.w ∧ Gam W0 X N c' fr (frz (owsOf l) hp ++ [.row q t i.el xs]) (frz (owsOf l) hp ++ [AO.row q t i.el xs]).length a ∧ sat (.ow nx (tsz t) n) c' [.slice (some ⟨c.w.heap.size, 0, none⟩) n n]) ∧
    (owsOf l = [] → ∀ sl, hp[sl]? = some .void → ∃ c', (execOp a.eval o).run P c.w = .ok (.value (.slice (some ⟨c.w.heap.size, 0, none⟩) n n)) c'.w ∧ Gam W0 X N c' fr (hp.set sl (.row q t i.el xs)) nx a ∧ sat (.ow sl (tsz t) n) c' [.slice (some ⟨c.w.heap.size, 0, none⟩) n n]) := by
  obtain ⟨ti, hti, hzi, hszi, hbz⟩ := info_of hie hz
  have hts := hie.ro t hro
  have hsi : ti.size = tsz t := hszi.trans hts.symm
  have hzs : z.cells.size = ti.size := (hie.zs z hz).trans hszi.symm
  have hsat0 : sat (litCells n (ofValues z.cells.toList) .nil) c (madeCells z.cells (n * ti.size)).toList := by
    have := lit_ok (c := c) z.cells.toList n .nil [] rfl
    rw [List.append_nil, ← made_rep, hzs] at this
    exact this
  obtain ⟨cells, hfill, hsc⟩ := fillA_ok (c := c) _ _ (parts.map fun (i, x) => (i, a.eval x)).toList hl (cs := madeCells z.cells (n * ti.size)) hsat0 (by simp) (fun k p v hk hv => by
    simp only [List.getElem?_map, Option.map_eq_some_iff, Array.toList_map] at hk hv
    obtain ⟨q, hq, rfl⟩ := hk
    obtain ⟨q', hq', rfl⟩ := hv
    rw [hq] at hq'; injection hq' with hq'; subst hq'
    exact ⟨rfl, hx q (List.mem_of_getElem? hq)⟩)
  rw [← hszi] at hfill
  have hr := run_lit (P := P) (hi.sl hk) hti hzi hzs hn (by omega) (by omega) hfill c.w
  have hrun : (execOp a.eval o).run P c.w = .ok (.value (.slice (some ⟨c.w.heap.size, 0, none⟩) n n)) (c.w.alloc (.cells cells i.el)) := by
    unfold execOp; rw [hop]
    simp only [Sem.run_bind]
    rw [hr]
    rfl
  have hcsz : cells.size = n * tsz t := by rw [fill_size _ _ hfill, size_madeCells, hsi]
  obtain ⟨c1, w1, n1, v1, b1, k1, kk, g1, s1, ln1, o1, f1⟩ := h.freeze (owsOf l)
  have hsu := unow_ok h.ob s1 l (owsOf l) (fun i hi => hi) f1 hsc
  obtain ⟨hx1, hx2, hx3⟩ := decO_ok hsu hxs
  have hflat : flatC c1 (qb q c1.b0) t xs (cells.toList.take (xs.length * tsz t)) := by
    rw [hx1, List.take_of_length_le (by simp [hcsz])]
    exact ⟨by rw [hx1]; simp [hcsz], hx3⟩
  have hpos : 0 < tsz t := by omega
  constructor
  · obtain ⟨c', hw, hG, hs⟩ := g1.made (e := i.el) (q := q) (cap := n) hpos hflat (by omega) (by unfold maxLen; omega) hcsz (.inl ⟨rfl, rfl, rfl⟩)
    refine ⟨c', by rw [hw, w1]; exact hrun, hG, ?_⟩
    rw [n1, w1, hx1, ← nx_n h] at hs
    exact hs
  · intro hnil sl hsl
    have hsu0 := unow_ok h.ob (Step.refl c) l [] (by rw [hnil]; intro i hi; cases hi) (fun i hi => by cases hi) hsc
    obtain ⟨hy1, hy2, hy3⟩ := decO_ok hsu0 hxs
    have hflat0 : flatC c (qb q c.b0) t xs (cells.toList.take (xs.length * tsz t)) := by
      rw [hy1, List.take_of_length_le (by simp [hcsz])]
      exact ⟨by rw [hy1]; simp [hcsz], hy3⟩
    obtain ⟨c', hw, hG, hs⟩ := h.made (e := i.el) (q := q) (cap := n) hpos hflat0 (by omega) (by unfold maxLen; omega) hcsz (.inr ⟨hsl, rfl, rfl⟩)
    refine ⟨c', by rw [hw]; exact hrun, ?_, ?_⟩
    · rw [h.nl]; rw [List.length_set] at hG; exact hG
    · rw [hy1] at hs; exact hs
end
end Go.Proofs.Ythlkhjfilfdpiaa.Eng
