/- Parts of the proof, joined: no conditions of their own. -/
import Derived.Lib.AppendZerosOnto
import Derived.Laws.BytesString
import Derived.Lib.ConvBytes
import Derived.Test.YtdhpjpidcbplbaaG02
set_option linter.unusedVariables false
set_option linter.unusedSimpArgs false
/- ENGINE 2, 5D: append, make, literals. -/
namespace Go.Proofs.Ytdhpjpidcbplbaa.Eng
open Go Go.RowKit
def Base (W0 : World) (X : Bd) (c : Cx) (v : Value) (q : Bool) (t : Ty) (e : TypeId) (l : List (El t)) : Prop :=
  (l = [] ∧ ∃ A, v = .slice A 0 0) ∨
  ∃ g cap cur xs, v = .slice (some ⟨g, 0, none⟩) l.length cap ∧ rowHeap c.w g cur e ∧ l.length ≤ cap ∧ cap ≤ maxLen ∧ cur.size = cap * tsz t ∧ cur.toList.take (l.length * tsz t) = xs ∧ flatC c (qb q c.b0) t l xs ∧
    c.O g ∧ (∀ i, i < c.n → ¬ c.key i g) ∧ (g < W0.heap.size → X.x g) ∧ (q = true → c.b0 ≤ g)
section
variable {P : Program} {E : Env} {W0 : World} {X : Bd} {N : Nat} {c : Cx} {fr : Fr} {hp : List AO} {nx : Nat} {a : Act} {o : Oper} {ρ : Operand → AV}
theorem info_of {e : TypeId} {ie : TI} (hie : TIok P e ie) {z : Value} (hz : ie.ze = some z) : ∃ i, P.info? e = some i ∧ i.zero = some z ∧ i.size = ie.sz ∧ i.bytes = ie.by_ := by
  have h1 := hie.sz
  have h2 := hie.ze z hz
  have h3 := hie.by_
  cases hq : P.info? e with
  | none => simp [hq] at h1
  | some i =>
    simp [hq] at h1 h2 h3
    exact ⟨i, rfl, h2, h1, h3⟩
theorem len_fits {n by_ : Nat} (h1 : n ≤ 1000000000) (h2 : by_ ≤ 100000) : n * by_ ≤ 140737488355328 := by
  have := Nat.mul_le_mul h1 h2
  omega
theorem memE_flat {w : World} {O : Nat → Prop} {b b' : Nat} : ∀ (t : Ty) (x : El t) (vs : List Value), flatTy t = true → memE w O b t x vs → memE w O b' t x vs
  | .nil, _, _, _, h => h
  | .int _ r, x, _, hf, ⟨vs, e, h⟩ => ⟨vs, e, memE_flat r x.2 vs hf h⟩
  | .bool r, x, _, hf, ⟨vs, e, h⟩ => ⟨vs, e, memE_flat r x.2 vs hf h⟩
  | .str r, x, _, hf, ⟨vs, e, h⟩ => ⟨vs, e, memE_flat r x.2 vs hf h⟩
  | .sl _ _, _, _, hf, _ => by cases hf
theorem SrcV.flat {v : Value} {q : Bool} {t : Ty} {l : List (El t)} (h : SrcV c v q t l) : SrcV c v (q || flatTy t) t l := by
  cases hf : flatTy t with
  | false => rw [Bool.or_false]; exact h
  | true =>
    obtain ⟨A, m, news, e, ⟨h1, h2⟩, h3⟩ := h
    exact ⟨A, m, news, e, ⟨h1, fun j y hj => memE_flat t y _ hf (h2 j y hj)⟩, h3⟩
theorem run_append_mk (w : World) (t ty e : TypeId) (i : TypeInfo) (ht : P.underlying t = some (.slice e)) (hi : P.info? e = some i)
    (g sLen sCap : Nat) (cur : Array Value) (hg : rowHeap w g cur e)
    (a : Addr) (m c : Nat) (news : List Value) (hl : news.length = m * i.size) (hnews : ∀ j u, news[j]? = some u → w.cell? (a.add j) = some u) (h1 : ∀ u ∈ news, u.oneCell' = true)
    (hroom : sLen + m ≤ sCap) (hfit : sLen * i.size + news.length ≤ cur.size) :
    (Builtin.append_ #[t, t] ty #[.slice (some ⟨g, 0, none⟩) sLen sCap, .slice (some a) m c]).run P w =
      .ok (.slice (some ⟨g, 0, none⟩) (sLen + m) sCap) (w.setRow g (cur.toList.take (sLen * i.size) ++ news ++ cur.toList.drop (sLen * i.size + news.length)).toArray) := by
  have hf := run_firstCells_some (P := P) w i.size m a m c news hl hnews
  have hst := run_storeCells_mk P g (sLen * i.size) e news 0 cur w hg (by simpa using hfit) h1
  simp only [Nat.add_zero] at hst
  simp [Builtin.append_, run_underlying ht, sizeOf, typeInfo, hi, Builtin.lenOf, hroom, hf, Addr.add_lit, hst]
structure AppSrc (P : Program) (T tx ty e : TypeId) (i : TypeInfo) (z : Value) (x : Value) (n : Nat) (news : List Value) (w : World) : Prop where
  none : n = 0 → ∀ (A : Option Addr) (m cap : Nat), m ≤ cap → (Builtin.append_ #[T, tx] ty #[.slice A m cap, x]).run P w = .ok (.slice A m cap) w
  room : 0 < n → ∀ (g sLen sCap : Nat) (cur : Array Value), rowHeap w g cur e → sLen + n ≤ sCap → sLen * i.size + news.length ≤ cur.size →
    (Builtin.append_ #[T, tx] ty #[.slice (some ⟨g, 0, Option.none⟩) sLen sCap, x]).run P w = .ok (.slice (some ⟨g, 0, Option.none⟩) (sLen + n) sCap) (w.setRow g (cur.toList.take (sLen * i.size) ++ news ++ cur.toList.drop (sLen * i.size + news.length)).toArray)
  grow : ∀ (base : Option Addr) (sLen sCap : Nat) (olds : List Value), (Builtin.firstCells i.size sLen (.slice base sLen sCap)).run P w.drew = .ok olds.toArray w.drew → sLen ≤ sCap → sCap < sLen + n → sLen + n ≤ 1000000000 → (sLen + n) * i.bytes ≤ 140737488355328 →
    (Builtin.append_ #[T, tx] ty #[.slice base sLen sCap, x]).run P w = .ok (.slice (some ⟨w.heap.size, 0, Option.none⟩) (sLen + n) (grownCap w (sLen + n) sCap e)) (w.drew.alloc (.cells ((olds ++ news).toArray ++ Builtin.zeroCells z.cells (grownCap w (sLen + n) sCap e - (sLen + n))) e))
theorem app_src (g1 : Gam W0 X N c fr hp nx a) {v0 vx : Value} {q q' : Bool} {t : Ty} {e T tx : TypeId} {ie : TI} {l l' : List (El t)} (hb : Base W0 X c v0 q t e l) {news : List Value} (hf : flatC c (qb q' c.b0) t l' news)
    (hT : P.underlying T = some (.slice e)) (hie : TIok P e ie) {z : Value} (hz : ie.ze = some z) (hro : tsz t = ie.sz) (h0 : 0 < tsz t) (hby : ie.by_ ≤ 100000) (hlen : (l ++ l').length ≤ 1000000000) (ty : TypeId)
    {i : TypeInfo} (hi : P.info? e = some i) (hzi : i.zero = some z) (hsz : i.size = ie.sz) (hbz : i.bytes = ie.by_) (hS : AppSrc P T tx ty e i z vx l'.length news c.w) :
    ∃ v' c', (Builtin.append_ #[T, tx] ty #[v0, vx]).run P c.w = .ok v' c'.w ∧ Gam W0 X N c' fr (hp ++ [AO.row (q && q') t e (l ++ l')]) (hp ++ [AO.row (q && q') t e (l ++ l')]).length a ∧ sat (.ow hp.length (tsz t) (l ++ l').length) c' [v'] ∧ Step c c' := by
  have hsi : i.size = tsz t := hsz.trans hro.symm
  have hll : (l ++ l').length = l.length + l'.length := List.length_append
  have hfit : (l.length + l'.length) * i.bytes ≤ 140737488355328 := by rw [hbz, ← hll]; exact len_fits hlen hby
  have hmax : l.length + l'.length ≤ maxLen := by unfold maxLen; omega
  have hqq : qb (q && q') c.b0 ≤ qb q c.b0 := qb_mono (by simp; exact fun h _ => h) (Nat.le_refl _)
  have hqq' : qb (q && q') c.b0 ≤ qb q' c.b0 := qb_mono (by simp) (Nat.le_refl _)
  have nc := g1.nc
  -- the end: a row that is told by its block
  have fin : ∀ (w' : World) (g cap : Nat) (cur : Array Value) (B : Nat → Prop), (∀ b, B b → c.O b ∧ (∀ i, i < c.n → ¬ c.key i b) ∧ (b < W0.heap.size → X.x b)) → c.w.heap.size ≤ w'.heap.size → (∀ b, b < c.w.heap.size → ¬ B b → w'.heap[b]? = c.w.heap[b]?) → w'.os = c.w.os → w'.tape = c.w.tape → w'.output = c.w.output → c.w.drawn ≤ w'.drawn →
      g < w'.heap.size → (c.w.heap.size ≤ g ∨ (B g ∧ (q = true → c.b0 ≤ g))) → rowHeap w' g cur e → l.length + l'.length ≤ cap → cap ≤ maxLen → cur.size = cap * tsz t → ∀ xs, flatC c (qb q c.b0) t l xs → cur.toList.take ((l.length + l'.length) * tsz t) = xs ++ news →
      (Builtin.append_ #[T, tx] ty #[v0, vx]).run P c.w = .ok (.slice (some ⟨g, 0, none⟩) (l.length + l'.length) cap) w' →
      ∃ v' c', (Builtin.append_ #[T, tx] ty #[v0, vx]).run P c.w = .ok v' c'.w ∧ Gam W0 X N c' fr (hp ++ [AO.row (q && q') t e (l ++ l')]) (hp ++ [AO.row (q && q') t e (l ++ l')]).length a ∧ sat (.ow hp.length (tsz t) (l ++ l').length) c' [v'] ∧ Step c c' := by
    intro w' g cap cur B hB hw hbl os tp ou hdr hg hgB hh hcap hcm hcs xs hxs htk' hrun
    have key := fun hob => g1.add (w' := w') (ix := c.n) (n' := c.n + 1) (ln := (l ++ l').length) (k := (· = g)) (lo := none) (v := .slice (some ⟨g, 0, none⟩) (l.length + l'.length) cap) (hv := at0_slice g _ _) (ob := .row (q && q') t e (l ++ l')) B
      (.inl ⟨rfl, rfl, rfl⟩) hB hw hbl os tp ou (fun g' hg' => by have hg' : g' = g := hg'; subst hg'; exact ⟨hg, hgB.imp_right And.left⟩) hob hdr
    have st : Step c (c.add w' c.n (· = g) none (.slice (some ⟨g, 0, none⟩) (l.length + l'.length) cap) (l ++ l').length (c.n + 1) (at0_slice g _ _)) := by
      refine ⟨Nat.le_succ _, fun i b hi hl => (updF_ne _ _ (by omega)).trans hl, fun i hi _ => ⟨updF_ne _ _ (by omega), updF_ne _ _ (by omega)⟩, fun b hO hlt h' => ?_, hw, fun b hO hlt => hbl b hlt (fun hBb => hO (hB b hBb).1), Nat.le_refl _⟩
      rcases h' with h' | h'
      · exact hO h'
      · have h' : b = g := h'; subst h'
        rcases hgB with h2 | h2
        · omega
        · exact hO (hB _ h2.1).1
    have hflat := flatC_app hxs hf hqq hqq'
    obtain ⟨hG, _⟩ := key ⟨h0, by rw [show (c.add w' c.n (· = g) none (.slice (some ⟨g, 0, none⟩) (l.length + l'.length) cap) (l ++ l').length (c.n + 1) (at0_slice g _ _)).len c.n = (l ++ l').length from updF_at _ _ _],
      fun hqt g' hg' => by
        rw [add_key] at hg'
        have hg' : g' = g := hg'
        subst hg'
        rcases hgB with h2 | h2
        · exact Nat.le_trans g1.ob.bz h2
        · exact h2.2 (by revert hqt; cases q <;> simp),
      xs ++ news, hflat.1, .inr ⟨g, cap, cur, by rw [hll]; exact updF_at _ _ _, fun b => by rw [add_key], hh, by rw [hll]; exact hcap, hcm, hcs, by rw [hll]; exact htk'⟩, fun j y hj => memE_keeps (st.keeps id) t y _ (hflat.2 j y hj)⟩
    refine ⟨_, _, hrun, hG, ⟨?_, ?_, ?_, some ⟨g, 0, none⟩, cap, ?_, ?_⟩, st⟩
    · show hp.length < c.n + 1; omega
    · rw [← nc]; exact (updF_at c.len c.n _).symm
    · rw [← nc]; congr 1; exact (updF_at c.val c.n _).symm
    · rw [← nc, hll]; exact updF_at _ _ _
    · rw [hll]; exact hcap
  have grow : ∀ (base : Option Addr) (sCap : Nat) (olds : List Value), v0 = .slice base l.length sCap → l.length ≤ sCap → sCap < l.length + l'.length → flatC c (qb q c.b0) t l olds → (∀ w : World, w = c.w ∨ w = c.w.drew → (Builtin.firstCells i.size l.length (.slice base l.length sCap)).run P w = .ok olds.toArray w) →
      ∃ v' c', (Builtin.append_ #[T, tx] ty #[v0, vx]).run P c.w = .ok v' c'.w ∧ Gam W0 X N c' fr (hp ++ [AO.row (q && q') t e (l ++ l')]) (hp ++ [AO.row (q && q') t e (l ++ l')]).length a ∧ sat (.ow hp.length (tsz t) (l ++ l').length) c' [v'] ∧ Step c c' := by
    intro base sCap olds ev hle hcap hol hfc
    have hr := hS.grow base l.length sCap olds (hfc _ (.inr rfl)) hle hcap (by rw [← hll]; exact hlen) hfit
    have hge := grownCap_ge c.w (l.length + l'.length) sCap e
    have hzs : z.cells.size = tsz t := (hie.zs z hz).trans hro.symm
    refine fin (c.w.drew.alloc (.cells ((olds ++ news).toArray ++ Builtin.zeroCells z.cells (grownCap c.w (l.length + l'.length) sCap e - (l.length + l'.length))) e)) c.w.heap.size _ _ (fun _ => False) (fun b hb => hb.elim) (by rw [alloc_size]; exact Nat.le_succ _) (fun b hb' _ => alloc_old c.w.drew _ hb') rfl rfl rfl (Nat.le_succ _)
      (by rw [alloc_size]; exact Nat.lt_succ_self _) (.inl (Nat.le_refl _)) (.of (alloc_new c.w.drew _)) hge (grownCap_le_maxLen c.w _ sCap e hmax) ?_ olds hol ?_ (by rw [ev]; exact hr)
    · simp only [Array.size_append, List.size_toArray, List.length_append, hol.1, hf.1, size_zeroCells, hzs, ← Nat.add_mul]
      congr 1; omega
    · rw [Array.toList_append, List.take_append_of_le_length (by simp [hol.1, hf.1, Nat.add_mul])]
      rw [List.take_of_length_le (by simp [hol.1, hf.1, Nat.add_mul])]
  rcases hb with ⟨rfl, A, rfl⟩ | ⟨g, cap, cur, xs, ev, hh, hcap, hcm, hcs, htk, hfl, hO, hno, hX, hq⟩
  · by_cases hl' : l' = []
    · subst hl'
      have hn : news = [] := List.eq_nil_of_length_eq_zero (by simpa using hf.1)
      subst hn
      have hr := hS.none rfl A 0 0 (Nat.le_refl _)
      have key := g1.add (w' := c.w) (ix := c.n) (n' := c.n + 1) (ln := 0) (k := noK) (lo := none) (v := .slice A 0 0) (hv := at0_nil A 0) (ob := .row (q && q') t e []) (fun _ => False)
        (.inl ⟨rfl, rfl, rfl⟩) (fun b hb => hb.elim) (Nat.le_refl _) (fun _ _ _ => rfl) rfl rfl rfl (fun g' hg' => hg'.elim)
      obtain ⟨hG, st⟩ := key ⟨h0, (updF_at c.len c.n 0).symm, fun _ g' hg' => (by rw [add_key] at hg'; exact hg'.elim), [], by simp, .inl ⟨rfl, A, updF_at _ _ _, fun b hb => by rw [add_key] at hb; exact hb⟩, fun j y hj => by simp at hj⟩
      refine ⟨.slice A 0 0, c.add c.w c.n noK none (.slice A 0 0) 0 (c.n + 1) (at0_nil A 0), hr, hG, ⟨?_, ?_, ?_, A, 0, ?_, Nat.le_refl _⟩, st⟩
      · show hp.length < c.n + 1; omega
      · rw [← nc]; exact (updF_at c.len c.n _).symm
      · rw [← nc]; congr 1; exact (updF_at c.val c.n _).symm
      · rw [← nc]; exact updF_at _ _ _
    · have hpos : 0 < l'.length := List.length_pos_iff.2 hl'
      refine grow A 0 [] rfl (Nat.le_refl _) (by simp; exact hpos) ⟨by simp, fun j y hj => by simp at hj⟩ fun w _ => ?_
      cases A with
      | none => exact run_firstCells_none w i.size 0 0 0
      | some ad => simpa using run_firstCells_some (P := P) w i.size 0 ad 0 0 [] (by simp) (fun j u hu => by simp at hu)
  · have hxlen := hfl.1
    by_cases hroom : l.length + l'.length ≤ cap
    · by_cases hl' : l' = []
      · -- nothing is appended
        subst hl'
        have hn : news = [] := List.eq_nil_of_length_eq_zero (by simpa using hf.1)
        subst hn
        have hr := hS.none rfl (some ⟨g, 0, none⟩) l.length cap hcap
        exact fin c.w g cap cur (fun b => b = g) (fun b hb => by rw [hb]; exact ⟨hO, hno, hX⟩) (Nat.le_refl _) (fun _ _ _ => rfl) rfl rfl rfl (Nat.le_refl _) (g1.ol g hO) (.inr ⟨rfl, hq⟩) hh (by simpa using hcap) hcm hcs xs hfl (by simpa using htk) (by rw [ev]; simpa using hr)
      · have hm2 : (l.length + l'.length) * tsz t ≤ cap * tsz t := Nat.mul_le_mul_right _ hroom
        rw [Nat.add_mul] at hm2
        have hr := hS.room (List.length_pos_iff.2 hl') g l.length cap cur hh hroom (by rw [hsi, hf.1, hcs]; exact hm2)
        have hfn := hf.1
        refine fin (c.w.setRow g (cur.toList.take (l.length * i.size) ++ news ++ cur.toList.drop (l.length * i.size + news.length)).toArray) g cap (cur.toList.take (l.length * i.size) ++ news ++ cur.toList.drop (l.length * i.size + news.length)).toArray (fun b => b = g) (fun b hb => by rw [hb]; exact ⟨hO, hno, hX⟩) (by rw [size_setRow]; exact Nat.le_refl _) (fun b _ hb => setRow_other _ _ _ _ hb) rfl rfl rfl (Nat.le_refl _) (by rw [size_setRow]; exact g1.ol g hO) (.inr ⟨rfl, hq⟩) (hh.set _ (by rw [hsi]; simp; omega)) hroom hcm ?_ xs hfl ?_ (by rw [ev]; exact hr)
        · rw [hsi]; simp; omega
        · rw [hsi]
          have htk2 : cur.toList.take (l.length * tsz t) = xs := htk
          simp only [htk2]
          rw [List.append_assoc, ← List.append_assoc, List.take_append_of_le_length (by simp [hxlen, hfn, Nat.add_mul]), List.take_of_length_le (by simp [hxlen, hfn, Nat.add_mul])]
    · refine grow (some ⟨g, 0, none⟩) cap xs ev hcap (by omega) hfl fun w hw => ?_
      refine run_firstCells_some (P := P) w i.size l.length ⟨g, 0, none⟩ l.length cap xs (by rw [hsi]; exact hxlen) fun j u hu => ?_
      have hcell : c.w.cell? ((⟨g, 0, none⟩ : Addr).add j) = some u := by
        rw [Addr.add_mid, Nat.zero_add]
        rw [← htk, List.getElem?_take] at hu
        split at hu
        · rw [hh.cell]; simpa using hu
        · cases hu
      rcases hw with rfl | rfl
      · exact hcell
      · simpa using hcell
theorem app_row (g1 : Gam W0 X N c fr hp nx a) {v0 vx : Value} {q q' : Bool} {t : Ty} {e T : TypeId} {ie : TI} {l l' : List (El t)} (hb : Base W0 X c v0 q t e l) (hs : SrcV c vx q' t l')
    (hT : P.underlying T = some (.slice e)) (hie : TIok P e ie) {z : Value} (hz : ie.ze = some z) (hro : tsz t = ie.sz) (h0 : 0 < tsz t) (hby : ie.by_ ≤ 100000) (hlen : (l ++ l').length ≤ 1000000000) (ty : TypeId) :
    ∃ v' c', (Builtin.append_ #[T, T] ty #[v0, vx]).run P c.w = .ok v' c'.w ∧ Gam W0 X N c' fr (hp ++ [AO.row (q && q') t e (l ++ l')]) (hp ++ [AO.row (q && q') t e (l ++ l')]).length a ∧ sat (.ow hp.length (tsz t) (l ++ l').length) c' [v'] ∧ Step c c' := by
  obtain ⟨i, hi, hzi, hsz, hbz⟩ := info_of hie hz
  have hsi : i.size = tsz t := hsz.trans hro.symm
  obtain ⟨news, hf, hsrc, hshape⟩ := hs.src hT
  have hsrc' : Src P i.size T vx l'.length news c.w := by rw [hsi]; exact hsrc
  refine app_src g1 hb hf hT hie hz hro h0 hby hlen ty hi hzi hsz hbz ⟨fun hn A m cap hle => ?_, fun hn g sLen sCap cur hg hroom hfit => ?_, fun base sLen sCap olds ho hle hcap h9 hfit => ?_⟩
  · have hl : news = [] := List.eq_nil_of_length_eq_zero (by rw [hf.1, hn, Nat.zero_mul])
    rw [hn, hl] at hsrc'
    exact run_append_nothing (P := P) c.w T T ty e i hT hi A m cap hle vx hsrc'
  · rcases hshape with ⟨hl', m, hv⟩ | ⟨ad, m, hv, hcell⟩
    · subst hl'; exact absurd hn (by simp)
    · rw [hv]
      exact run_append_mk (P := P) c.w T ty e i hT hi g sLen sCap cur hg ad l'.length m news (by rw [hsi]; exact hf.1) hcell (flatC_ones hf) hroom hfit
  · exact run_append_grow_src (P := P) c.w T T ty e i z hT hi hzi base sLen sCap olds ho vx l'.length news hsrc' hcap (by omega) (growslice_fits hcap hfit)
theorem base_of (h : Gam W0 X N c fr hp nx a) {j : Nat} {q : Bool} {t : Ty} {e : TypeId} {l : List (El t)} (hj : getAO hp j = .row q t e l) {c1 : Cx} (st : Step c c1) (hw : c1.w = c.w) (hn : c1.n = c.n) (hb0 : c1.b0 = c.b0) (hk : ∀ i b, c1.key i b → i ≠ j ∧ c.key i b)
    (hO : ∀ b, c.key j b → c1.O b) : Base W0 X c1 (c.val j) q t e l := by
  have hj' := getAO_at hj (by simp)
  have hjn : j < c.n := by rw [h.nc]; exact (List.getElem?_eq_some_iff.1 hj').1
  obtain ⟨h0, h1, hq, xs, h2, h3, h4⟩ := (h.o j _ hj' : rowAt c j q t e l)
  rcases h3 with ⟨e1, A, e2, e3⟩ | ⟨g, cap, cur, e1, e2, e3, e4, e5, e6, e7⟩
  · exact .inl ⟨e1, A, e2⟩
  · refine .inr ⟨g, cap, cur, xs, e1, e3.same (by rw [hw]), e4, e5, e6, e7, flatC_keeps (st.keeps id) ⟨h2, h4⟩, hO g ((e2 g).2 rfl), fun i hi e => (hk i g e).1 (h.ob.dj i j g (by omega) hjn (hk i g e).2 ((e2 g).2 rfl)), h.kx j g hjn ((e2 g).2 rfl), fun hqt => by rw [hb0]; exact hq hqt g ((e2 g).2 rfl)⟩
theorem entR_weak {ka : Bool} {kt : Ty} {vt : VT} {out : Option (El kt)} : ∀ {es : List MapEntry} {l : List (El kt × ElV vt)} {R : ElV vt → Value → Prop}, entR ka kt vt none R es l → entR ka kt vt out R es l
  | [], [], _, _ => trivial
  | [], _ :: _, _, h => h.elim
  | _ :: _, [], _, h => h.elim
  | e :: es, p :: l, _, h => ⟨⟨h.1.1, fun _ => h.1.2 rfl⟩, entR_weak h.2⟩
theorem pair_ne {α : Type} (R : α → α → Prop) (hs : ∀ p q, R p q → R q p) : ∀ {l : List α}, l.Pairwise R → ∀ {p q : α}, p ∈ l → q ∈ l → p ≠ q → R p q
  | [], _, _, _, hp, _, _ => by cases hp
  | x :: r, h, p, q, hp, hq, hne => by
    obtain ⟨h1, h2⟩ := List.pairwise_cons.1 h
    rcases List.mem_cons.1 hp with e1 | e1
    · rcases List.mem_cons.1 hq with e2 | e2
      · exact absurd (e1.trans e2.symm) hne
      · rw [e1]; exact h1 q e2
    · rcases List.mem_cons.1 hq with e2 | e2
      · rw [e2]; exact hs _ _ (h1 p e1)
      · exact pair_ne R hs h2 e1 e2 hne
theorem flatC_of {c : Cx} {b : Nat} {t : Ty} {l : List (El t)} {xs : List Value} (h : ∀ j y, l[j]? = some y → memE c.w c.O b t y ((xs.drop (j * tsz t)).take (tsz t))) (hl : xs.length = l.length * tsz t) : flatC c b t l xs := ⟨hl, h⟩
theorem good_append (h : Gam W0 X N c fr hp nx a) {cl : Call} (hop : o.op = .call cl) (hb : cl.callee = .builtin .append) {T : TypeId} (hts : cl.argTypes.toList = [T, T]) {i ie : TI} (hi : TIok P T i) (hk : i.kd = 3) (hie : TIok P i.el ie) {t : Ty} (hro : ie.ro = some t) (hsz : 0 < ie.sz) (hby : ie.by_ ≤ 100000) {z : Value} (hz : ie.ze = some z)
    {s x : AV} {vs vx : Value} (hargs : cl.args.map a.eval = #[vs, vx]) (hs : sat s c [vs]) (hx : sat x c [vx]) : GoodR P W0 X N c fr hp nx a o (appR hp nx i.el ie t s x) := by
  have hT := hi.sl hk
  have hts' : cl.argTypes = #[T, T] := by rw [← Array.toList_inj]; exact hts
  have h0 : 0 < tsz t := by rw [hie.ro t hro]; exact hsz
  have run : ∀ {w w' : World} {v' : Value}, (Builtin.append_ #[T, T] o.type #[vs, vx]).run P w = .ok v' w' → (execOp a.eval o).run P w = .ok (.value v') w' := fun {w w' v'} hr => by
    refine run_builtin hop hb ?_
    rw [hargs, hts']
    simp only [builtin, Sem.run_bind, hr, Result.andThen_ok, Sem.run_pure]
  unfold appR
  refine srcK_ok (no := R.no) (PP := GoodR P W0 X N c fr hp nx a o) h hx t trivial fun q0 l' ows hsrc0 => ?_
  have hsrc : ∀ c1, Fz c c1 hp ows → SrcV c1 vx (q0 || flatTy t) t l' := fun c1 hz => (hsrc0 c1 hz).flat
  generalize (q0 || flatTy t) = q' at hsrc
  unfold appQ
  -- onto an empty one
  have empty : ∀ A, vs = .slice A 0 0 → GoodR P W0 X N c fr hp nx a o (.act 1 (l'.length ≤ 1000000000) (.ow nx (tsz t) l'.length) (snoc (frz ows hp) (.row q' t i.el l'))) := by
    intro A ev hlen
    obtain ⟨c1, w1, n1, v1, b1, k1, kk, g1, s1, ln1, o1, f1⟩ := h.freeze ows
    obtain ⟨v', c', hr, hG, hsat, _⟩ := app_row (P := P) (q := true) (l := []) (e := i.el) g1 (.inl ⟨rfl, A, ev⟩) (hsrc c1 ⟨s1, w1, f1⟩) hT hie hz (hie.ro t hro) h0 hby (by simpa using hlen) o.type
    rw [w1] at hr
    rw [snoc_eq]
    refine ⟨v', c', run hr, by simpa using hG, ?_⟩
    rw [h.nl, ← ln1]
    simpa using hsat
  split
  · rename_i n m
    cases hn : (Nat.beq n 0 && Nat.beq m 0) with
    | false => trivial
    | true =>
      simp only [Bool.and_eq_true] at hn
      have h1 := Nat.eq_of_beq_eq_true hn.1
      have h2 := Nat.eq_of_beq_eq_true hn.2
      subst h1 h2
      exact empty none (by simpa [sat] using hs)
  · rename_i j k n
    cases hown : hasN ows j with
    | true => trivial
    | false =>
      simp only [cond_false]
      split
      · rename_i q t0 e0 l hj
        cases he : Nat.beq e0 i.el with
        | false => trivial
        | true =>
          have he' := Nat.eq_of_beq_eq_true he
          subst he'
          simp only [cond_true]
          refine castK_ok (no := R.no) (P := GoodR P W0 X N c fr hp nx a o) trivial fun e => ?_
          subst e
          show GoodR P W0 X N c fr hp nx a o (.act 1 ((l ++ l').length ≤ 1000000000) (.ow nx (tsz t0) (l ++ l').length) (snoc (frz ows (setAO hp j .dead)) (.row (q && q') t0 i.el (l ++ l'))))
          intro hlen
          obtain ⟨hjn, hn, ev, _⟩ := hs
          have ev' : vs = c.val j := by simpa using ev
          have hnot := hasN_ok _ _ hown
          obtain ⟨gk, sk, hkill⟩ := h.kill hjn (.inr trivial)
          obtain ⟨c1, w1, n1, v1, b1, k1, kk, g1, s1, ln1, o1, f1⟩ := gk.freeze ows
          have st : Step c c1 := sk.trans s1
          have hold : ∀ i b, c1.key i b → i ≠ j ∧ c.key i b := fun i b hkb => by
            have := kk.1 i b hkb
            by_cases e : i = j
            · have h' : updF c.key j noK i b := this
              rw [e, updF_at] at h'; exact h'.elim
            · have h' : updF c.key j noK i b := this
              rw [updF_ne _ _ e] at h'; exact ⟨e, h'⟩
          have hbase : Base W0 X c1 vs q t0 i.el l := by
            rw [ev']
            exact base_of h hj st w1 n1 b1 hold fun b hkb => kk.2 b (h.ob.kb j b hjn hkb).1 (fun i hi => hkill b hkb i hi)
          have hsrc1 := hsrc c1 ⟨st, w1, fun i hi q t l hh hic => f1 i hi q t l (by
            have hij : i ≠ j := fun e => hnot (e ▸ hi)
            have : getAO (hp.set j .dead) i = getAO hp i := by rw [getAO_eq, getAO_eq, List.getElem?_set_ne (fun e => hij e.symm)]
            rw [this]; exact hh) hic⟩
          obtain ⟨v', c', hr, hG, hsat, _⟩ := app_row (P := P) g1 hbase hsrc1 hT hie hz (hie.ro t0 hro) h0 hby hlen o.type
          rw [w1] at hr
          rw [snoc_eq, setAO_eq]
          refine ⟨v', c', run hr, hG, ?_⟩
          have : nx = (frz ows (hp.set j .dead)).length := by rw [ln1, h.nl]; simp
          rw [this]; exact hsat
      · trivial
  · rename_i q t0 l
    refine castK_ok (no := R.no) (P := GoodR P W0 X N c fr hp nx a o) trivial fun e => ?_
    subst e
    show GoodR P W0 X N c fr hp nx a o (.act 1 ((l ++ l').length ≤ 1000000000) (.rl (q && q') t0 (l ++ l')) (frz ows hp))
    intro hlen
    obtain ⟨A, e, hL⟩ := hs
    have ev : vs = .slice A l.length l.length := by simpa using e
    obtain ⟨c1, w1, n1, v1, b1, k1, kk, g1, s1, ln1, o1, f1⟩ := h.freeze ows
    have hsrc1 := hsrc c1 ⟨s1, w1, f1⟩
    have hL1 := memR_keeps (s1.keeps (q := q) (q' := q) id) hL
    obtain ⟨ti, hti, hzi, hszi, hbz⟩ := info_of hie hz
    have hsi : ti.size = tsz t0 := hszi.trans (hie.ro t0 hro).symm
    obtain ⟨news, hf, hsr, _⟩ := hsrc1.src hT
    have hsr' : Src P ti.size T vx l'.length news c1.w := by rw [hsi]; exact hsr
    have hll : (l ++ l').length = l.length + l'.length := List.length_append
    have hqq : qb (q && q') c1.b0 ≤ qb q c1.b0 := qb_mono (by simp; exact fun h _ => h) (Nat.le_refl _)
    have hqq' : qb (q && q') c1.b0 ≤ qb q' c1.b0 := qb_mono (by simp) (Nat.le_refl _)
    by_cases hl' : l' = []
    · subst hl'
      have hn : news = [] := List.eq_nil_of_length_eq_zero (by simpa using hf.1)
      subst hn
      have hr := run_append_nothing (P := P) c1.w T T o.type i.el ti hT hti A l.length l.length (Nat.le_refl _) vx (by simpa using hsr')
      rw [w1] at hr
      refine ⟨_, c1, by rw [w1]; exact run (by rw [ev]; exact hr), g1, A, l.length, by simp, by simp, by simpa using memR_q hqq hL1⟩
    · have hpos : 0 < l'.length := List.length_pos_iff.2 hl'
      obtain ⟨olds, hol, hc⟩ := memL_flat hL1
      have hfc : ∀ w : World, w = c1.w ∨ w = c1.w.drew → (Builtin.firstCells ti.size l.length (.slice A l.length l.length)).run P w = .ok olds.toArray w := by
        intro w hw
        cases A with
        | none =>
          have hl : l = [] := Classical.byContradiction fun hne => by obtain ⟨ad, e, _⟩ := hc hne; cases e
          subst hl
          have : olds = [] := List.eq_nil_of_length_eq_zero (by simpa using hol.1)
          subst this
          exact run_firstCells_none w ti.size 0 0 0
        | some ad =>
          refine run_firstCells_some w ti.size l.length ad l.length l.length olds (by rw [hsi]; exact hol.1) fun j u hu => ?_
          have hne : l ≠ [] := fun e => by subst e; have := List.eq_nil_of_length_eq_zero (by simpa using hol.1 : olds.length = 0); subst this; simp at hu
          obtain ⟨ad', e, hcell⟩ := hc hne
          injection e with e; subst e
          rcases hw with rfl | rfl
          · exact hcell j u hu
          · simpa using hcell j u hu
      have hfit : (l.length + l'.length) * ti.bytes ≤ 140737488355328 := by rw [hbz, ← hll]; exact len_fits hlen hby
      have hr := run_append_grow_src (P := P) c1.w T T o.type i.el ti z hT hti hzi A l.length l.length olds (hfc _ (.inr rfl)) vx l'.length news hsr' (by omega) (by omega) (growslice_fits (by omega) hfit)
      obtain ⟨w', hw'⟩ : ∃ w', w' = c1.w.drew.alloc (.cells ((olds ++ news).toArray ++ Builtin.zeroCells z.cells (grownCap c1.w (l.length + l'.length) l.length i.el - (l.length + l'.length))) i.el) := ⟨_, rfl⟩
      rw [← hw'] at hr
      have hsz' : w'.heap.size = c1.w.heap.size + 1 := by rw [hw', alloc_size]; rfl
      have hold : ∀ b, b < c1.w.heap.size → w'.heap[b]? = c1.w.heap[b]? := fun b hb => by rw [hw']; exact alloc_old c1.w.drew _ hb
      have hnew : w'.heap[c1.w.heap.size]? = some (.cells ((olds ++ news).toArray ++ Builtin.zeroCells z.cells (grownCap c1.w (l.length + l'.length) l.length i.el - (l.length + l'.length))) i.el (0, 0)) := by rw [hw']; exact alloc_new c1.w.drew _
      have hbel : BelowD c1.w.heap.size c1.w w' := ⟨⟨by rw [hw']; rfl, by rw [hw']; rfl, by rw [hw']; rfl, by omega, hold⟩, by rw [hw']; exact Nat.le_succ _⟩
      have hG := g1.below hbel
      have hge := grownCap_ge c1.w (l.length + l'.length) l.length i.el
      have hflat := flatC_app hol hf hqq hqq'
      have kp : Keeps c1.w c1.O (qb (q && q') c1.b0) w' c1.O (qb (q && q') c1.b0) := ⟨fun _ h _ _ => h, by omega, fun b _ hb _ => hold b hb, fun _ _ _ h => h⟩
      refine ⟨_, c1.to w', by rw [← w1]; exact run (by rw [ev]; exact hr), hG, some ⟨c1.w.heap.size, 0, none⟩, _, by rw [hll], by rw [hll]; exact hge, fun j y hj => ⟨_, rfl, rfl, fun hO => ?_, ?_, ?_, ((olds ++ news).drop (j * tsz t0)).take (tsz t0), ?_, ?_, memE_keeps kp t0 y _ (hflat.2 j y hj)⟩⟩
      · have := g1.ol _ hO; simp at this
      · show c1.w.heap.size < w'.heap.size; omega
      · exact Nat.le_trans (qb_le _ _) g1.ob.bz
      · have hjl : j < (l ++ l').length := (List.getElem?_eq_some_iff.1 hj).1
        have : (j + 1) * tsz t0 ≤ (l ++ l').length * tsz t0 := Nat.mul_le_mul_right _ hjl
        rw [Nat.add_mul] at this
        rw [List.length_take, List.length_drop, hflat.1]; omega
      · intro p u hp
        rw [List.getElem?_take] at hp
        split at hp
        · rw [List.getElem?_drop] at hp
          have hlt := (List.getElem?_eq_some_iff.1 hp).1
          have hget : ((olds ++ news).toArray ++ Builtin.zeroCells z.cells (grownCap c1.w (l.length + l'.length) l.length i.el - (l.length + l'.length))).toList[j * tsz t0 + p]? = some u := by
            rw [Array.toList_append, List.getElem?_append_left hlt]; exact hp
          show World.cell? w' _ = _
          unfold World.cell?
          simp only [hnew]
          simp only [Nat.zero_add, Option.isSome_none, Bool.false_eq_true, if_false]
          rw [← Array.getElem?_toList]
          exact hget
        · cases hp
  · obtain ⟨A, e⟩ := hs
    exact empty A (by simpa using e)
  · rename_i j tk xk n hd
    split
    · rename_i ka va kt a0 e0 l hj
      cases he : (Nat.beq e0 i.el && !hasN ows j) with
      | false => trivial
      | true =>
        simp only [Bool.and_eq_true, Bool.not_eq_true'] at he
        have he' := Nat.eq_of_beq_eq_true he.1
        subst he'
        have hnot := hasN_ok _ _ he.2
        simp only [cond_true]
        refine castE_ok (P := GoodR P W0 X N c fr hp nx a o) (no := R.no) trivial fun hkt => ?_
        subst hkt
        refine castK_ok (no := R.no) (P := GoodR P W0 X N c fr hp nx a o) trivial fun hta => ?_
        subst hta
        show GoodR P W0 X N c fr hp nx a o (.act 1 ((lstM tk xk l).1 = hd ∧ ((lstM tk xk l).2 ++ l').length ≤ 1000000000) (.ow nx (tsz a0) ((lstM tk xk l).2 ++ l').length) (snoc (frz ows (setAO hp j (.mpo ka va tk (.own a0 i.el) (some xk) none l))) (.row false a0 i.el ((lstM tk xk l).2 ++ l'))))
        rintro ⟨hhd, hlen⟩
        obtain ⟨⟨hjn, bm, hbm⟩, ev, _⟩ := hs
        have ev' : vs = hd := by simpa using ev
        have hmap : mapAt c j ka va tk (.own a0 i.el) none none l := h.o j _ (getAO_at hj (by simp))
        have hin := lst_in hmap xk
        obtain ⟨b, es, ck, m1, m2, m3, m4, m5, m6, m7, m8⟩ := hmap
        -- what the map holds from now on
        have hK : ∀ b', (b' = b ∨ ownB tk (.own a0 i.el) (some xk) l b' ∨ itB c (none : Option (Nat × Option (El tk × ElV (.own a0 i.el)) × List (El tk × ElV (.own a0 i.el)))) b') → c.key j b' := fun b' hb' => (m5 b').2 (by
          rcases hb' with h1 | ⟨p, hp, _, h2⟩ | h1
          · exact .inl h1
          · exact .inr (.inl ⟨p, hp, rfl, h2⟩)
          · exact h1.elim)
        obtain ⟨gk, sk, hless⟩ := h.less hjn (K := fun b' => b' = b ∨ ownB tk (.own a0 i.el) (some xk) l b' ∨ itB c (none : Option (Nat × Option (El tk × ElV (.own a0 i.el)) × List (El tk × ElV (.own a0 i.el)))) b') hK (ob := .mpo ka va tk (.own a0 i.el) (some xk) none l) (fun _ => ⟨b, es, ck, m1, m2, m3, entR_weak m4, fun b' => by
          show updF c.key j _ j b' ↔ _
          rw [updF_at]; exact Iff.rfl, fun b' ⟨p, hp, _, h2⟩ => ⟨(m6 b' ⟨p, hp, rfl, h2⟩).1, fun h => h⟩, m7.imp fun h _ _ => h rfl rfl, trivial⟩)
        obtain ⟨c1, w1, n1, v1, b1, k1, kk, g1, s1, ln1, o1, f1⟩ := gk.freeze ows
        have st : Step c c1 := sk.trans s1
        have hbase : Base W0 X c1 vs false a0 i.el (lstM tk xk l).2 := by
          rw [ev', ← hhd]
          rcases hin with ⟨_, h0'⟩ | ⟨kk', vv, hmem, heq, hfd, h0', hI⟩
          · rw [h0']; exact .inl ⟨rfl, none, rfl⟩
          · rw [h0']
            obtain ⟨_, ⟨hl0, A, e1⟩ | ⟨g, cap, cur, e1, e2, e3, e4, e5, e6, e7⟩⟩ := hI
            · exact .inl ⟨hl0, A, e1⟩
            · have hgb : blkV (.own a0 i.el) vv = some g := by
                show blkOf vv.1 = some g
                rw [e1]
                cases cap with
                | zero => omega
                | succ n => rfl
              have hkg : c.key j g := (m5 g).2 (.inr (.inl ⟨(kk', vv), hmem, rfl, hgb⟩))
              have hng : ¬ (g = b ∨ ownB tk (.own a0 i.el) (some xk) l g ∨ itB c (none : Option (Nat × Option (El tk × ElV (.own a0 i.el)) × List (El tk × ElV (.own a0 i.el)))) g) := by
                rintro (h1 | ⟨p, hp, hno, h2⟩ | h1)
                · exact (m6 g ⟨(kk', vv), hmem, rfl, hgb⟩).1 h1
                · have hno : eqE tk xk p.1 = false := hno
                  by_cases e : p = (kk', vv)
                  · rw [e] at hno; rw [heq] at hno; cases hno
                  · exact pair_ne (fun p q => ∀ b', blkV (.own a0 i.el) p.2 = some b' → blkV (.own a0 i.el) q.2 ≠ some b') (fun p q h b' h1 h2 => h b' h2 h1) (m7.imp fun h => h rfl rfl) hp hmem e g h2 hgb
                · exact h1.elim
              have hO1 : c1.O g := kk.2 g (h.ob.kb j g hjn hkg).1 (fun i hi => hless g hkg hng i hi)
              refine .inr ⟨g, cap, cur, _, e1, e3.same (by rw [w1]), e4, e5, e6, rfl, flatC_of (fun jj y hy => ?_) ?_, hO1, fun i hi hki => hless g hkg hng i (by rw [n1] at hi; exact hi) (kk.1 i g hki), h.kx j g hjn hkg, fun hq => by cases hq⟩
              · have hjl : jj < vv.2.length := (List.getElem?_eq_some_iff.1 hy).1
                have hm : (jj + 1) * tsz a0 ≤ vv.2.length * tsz a0 := Nat.mul_le_mul_right _ hjl
                rw [Nat.add_mul] at hm
                have := memE_keeps (st.keeps (q := false) (q' := false) id) a0 y _ (e7 jj y hy)
                rwa [List.drop_take, List.take_take, Nat.min_eq_left (by omega)]
              · rw [List.length_take, Array.length_toList, e6]
                have := Nat.mul_le_mul_right (tsz a0) e4
                omega
        have hsrc1 := hsrc c1 ⟨st, w1, fun i hi q t l hh hic => f1 i hi q t l (by
          have hij : i ≠ j := fun e => hnot (e ▸ hi)
          rw [getAO_eq, List.getElem?_set_ne (fun e => hij e.symm), ← getAO_eq]; exact hh) hic⟩
        obtain ⟨v', c', hr, hG, hsat, _⟩ := app_row (P := P) g1 hbase hsrc1 hT hie hz (hie.ro a0 hro) h0 hby hlen o.type
        rw [w1] at hr
        rw [snoc_eq, setAO_eq]
        refine ⟨v', c', run hr, hG, ?_⟩
        have : nx = (frz ows (hp.set j (.mpo ka va tk (.own a0 i.el) (some xk) none l))).length := by rw [ln1, h.nl]; simp
        rw [this]; exact hsat
    · trivial
  · trivial
theorem zero_src {T tx e : TypeId} {ie : TI} {kx : IntKind} {n : Int} (hT : P.underlying T = some (.slice e)) (htx : P.underlying tx = some (.int .i64)) (hie : TIok P e ie) {z : Value} (hz : ie.ze = some z) (h0 : 0 < ie.sz) (ty : TypeId)
    {i : TypeInfo} (hi : P.info? e = some i) (hzi : i.zero = some z) (hsz : i.size = ie.sz) (hn : 0 ≤ n) (hn9 : n ≤ 1000000000) (hby : ie.by_ ≤ 100000) (hbz : i.bytes = ie.by_) (hone : ∀ v ∈ (Builtin.zeroCells z.cells n.toNat).toList, v.oneCell' = true) (w : World) :
    AppSrc P T tx ty e i z (.int kx n) n.toNat (Builtin.zeroCells z.cells n.toNat).toList w := by
  have hw : IntKind.i64.wrap n = n := by rw [IntKind.wrap_i64]; omega
  have hneg : ¬ n < 0 := by omega
  have hzs := hie.zs z hz
  have hb48 : ¬ (281474976710656 < n * (i.bytes : Int)) := by
    have h1 : n.toNat * i.bytes ≤ 1000000000 * 100000 := by rw [hbz]; exact Nat.mul_le_mul (by omega) hby
    have h2 : (n.toNat : Int) * (i.bytes : Int) = ((n.toNat * i.bytes : Nat) : Int) := by rw [Int.natCast_mul]
    rw [Int.toNat_of_nonneg hn] at h2
    omega
  refine ⟨fun h0' A m cap hle => ?_, fun hpos g sLen sCap cur hg hroom hfit => ?_, fun base sLen sCap olds ho hle hcap h9 hfit => ?_⟩
  · have hn0 : n = 0 := by omega
    subst hn0
    cases A <;> simp [Builtin.append_, run_underlying hT, run_underlying htx, sizeOf, typeInfo, hi, asInt, asIntOf, hw, hle, storeCells]
  · have hst := run_storeCells_mk P g (sLen * i.size) e (Builtin.zeroCells z.cells n.toNat).toList 0 cur w hg (by simpa using hfit) hone
    simp only [Nat.add_zero] at hst
    have hns : ¬ (n.toNat = 0 ∨ i.size = 0) := by omega
    simp [Builtin.append_, run_underlying hT, run_underlying htx, sizeOf, typeInfo, zeroValue, hi, hzi, asInt, asIntOf, hw, hneg, hb48, hroom, hns, Addr.add_lit, hst]
    intro hc
    rcases Nat.mul_eq_zero.1 hc with hc | hc <;> omega
  · by_cases hk : n.toNat = 0
    · omega
    · have := Lib.run_append_grow_zeros (P := P) w T tx ty e i z kx .i64 hT htx hi hzi base sLen sCap olds ho n.toNat (by omega) (by omega) hcap (by omega) (by
        have h1 : n.toNat * i.bytes ≤ 1000000000 * 100000 := by rw [hbz]; exact Nat.mul_le_mul (by omega) hby
        omega) (growslice_fits hcap hfit)
      rw [Int.toNat_of_nonneg hn] at this
      rw [this]
      rw [show (olds ++ (Builtin.zeroCells z.cells n.toNat).toList).toArray = olds.toArray ++ Builtin.zeroCells z.cells n.toNat by apply Array.ext'; simp]
theorem Gam.made (h : Gam W0 X N c fr hp nx a) {ix n' : Nat} {hp' : List AO} {q : Bool} {t : Ty} {e : TypeId} {l : List (El t)} {cur : Array Value} {cap : Nat} (h0 : 0 < tsz t) (hf : flatC c (qb q c.b0) t l (cur.toList.take (l.length * tsz t))) (hcap : l.length ≤ cap) (hcm : cap ≤ maxLen) (hcs : cur.size = cap * tsz t)
    (hix : (ix = c.n ∧ n' = c.n + 1 ∧ hp' = hp ++ [.row q t e l]) ∨ (hp[ix]? = some .void ∧ n' = c.n ∧ hp' = hp.set ix (.row q t e l))) :
    ∃ c', c'.w = c.w.alloc (.cells cur e) ∧ Gam W0 X N c' fr hp' hp'.length a ∧ sat (.ow ix (tsz t) l.length) c' [.slice (some ⟨c.w.heap.size, 0, none⟩) l.length cap] := by
  have key := h.add (w' := c.w.alloc (.cells cur e)) (ix := ix) (n' := n') (ln := l.length) (k := (· = c.w.heap.size)) (lo := none) (v := .slice (some ⟨c.w.heap.size, 0, none⟩) l.length cap) (hv := at0_slice _ _ _) (ob := .row q t e l) (fun _ => False) hix (fun b hb => hb.elim)
    (by rw [alloc_size]; omega) (fun b hb _ => alloc_old _ _ hb) rfl rfl rfl (fun g hg => by have hg : g = c.w.heap.size := hg; subst hg; rw [alloc_size]; omega)
  have hin : ix < n' := by
    rcases hix with ⟨e1, e2, _⟩ | ⟨e1, e2, _⟩
    · omega
    · have := (List.getElem?_eq_some_iff.1 e1).1; have := h.nc; omega
  have kp : Keeps c.w c.O (qb q c.b0) (c.w.alloc (.cells cur e)) (fun b => c.O b ∨ b = c.w.heap.size) (qb q c.b0) := ⟨fun b hO hb _ h' => by
    rcases h' with h' | h'
    · exact hO h'
    · omega, by rw [alloc_size]; omega, fun b _ hb _ => alloc_old _ _ hb, fun _ _ _ h => h⟩
  obtain ⟨hG, _⟩ := key ⟨h0, (updF_at _ _ _).symm, fun _ g hg => by
      rw [add_key] at hg
      have hg : g = c.w.heap.size := hg
      subst hg; exact h.ob.bz, _, hf.1, .inr ⟨c.w.heap.size, cap, cur, updF_at _ _ _, fun b => by rw [add_key], .of (alloc_new _ _), hcap, hcm, hcs, rfl⟩, fun j y hj => memE_keeps kp t y _ (hf.2 j y hj)⟩
  exact ⟨_, rfl, hG, hin, (updF_at _ _ _).symm, by congr 1; exact (updF_at _ _ _).symm, some ⟨c.w.heap.size, 0, none⟩, cap, updF_at _ _ _, hcap⟩
theorem madeCells_get (z : Array Value) (n p : Nat) (hp : p < n * z.size) : (madeCells z (n * z.size)).toList[p]? = z.toList[p % z.size]? := by
  have hz : 0 < z.size := by
    rcases Nat.eq_zero_or_pos z.size with h | h
    · rw [h, Nat.mul_zero] at hp; omega
    · exact h
  have hm := Nat.mod_lt p hz
  simp [madeCells, hp, hm]
theorem made_flat {c : Cx} {b : Nat} {t : Ty} {e : El t} {z : Array Value} (hz : z.size = tsz t) (hE : memE c.w c.O b t e z.toList) (n m : Nat) (hnm : n ≤ m) : flatC c b t (List.replicate n e) ((madeCells z (m * tsz t)).toList.take ((List.replicate n e).length * tsz t)) := by
  have hle : n * tsz t ≤ m * tsz t := Nat.mul_le_mul_right _ hnm
  have hlen : (madeCells z (m * tsz t)).toList.length = m * tsz t := by simp [size_madeCells]
  refine ⟨by rw [List.length_take, hlen, List.length_replicate]; omega, fun j y hj => ?_⟩
  obtain ⟨hjn, hy⟩ : j < n ∧ y = e := by
    rw [List.getElem?_replicate] at hj
    split at hj
    · exact ⟨by assumption, by injection hj with hj; exact hj.symm⟩
    · cases hj
  subst hy
  have hm2 : (j + 1) * tsz t ≤ n * tsz t := Nat.mul_le_mul_right _ hjn
  rw [Nat.add_mul] at hm2
  have : ((((madeCells z (m * tsz t)).toList.take ((List.replicate n y).length * tsz t)).drop (j * tsz t)).take (tsz t)) = z.toList := by
    refine List.ext_getElem? fun p => ?_
    rw [List.getElem?_take]
    by_cases hp : p < tsz t
    · rw [if_pos hp, List.getElem?_drop, List.getElem?_take, if_pos (by simp; omega), ← hz, madeCells_get _ _ _ (by rw [hz]; omega)]
      congr 1
      rw [Nat.mul_comm, Nat.mul_add_mod, Nat.mod_eq_of_lt (by omega)]
    · rw [if_neg hp]
      exact (List.getElem?_eq_none (by simp; omega)).symm
  rw [this]; exact hE
theorem good_appZ (h : Gam W0 X N c fr hp nx a) {cl : Call} (hop : o.op = .call cl) (hb : cl.callee = .builtin .append) {T tx : TypeId} (hts : cl.argTypes.toList = [T, tx]) {i ie : TI} (hi : TIok P T i) (hk : i.kd = 3) (hie : TIok P i.el ie) {it : TI} (hit : TIok P tx it) (hik : it.ik = some .i64) {t : Ty} (hro : ie.ro = some t) (hsz : 0 < ie.sz) (hby : ie.by_ ≤ 100000) {z : Value} (hz : ie.ze = some z)
    {s : AV} {kx : IntKind} {n : Int} {vs : Value} (hargs : cl.args.map a.eval = #[vs, .int kx n]) (hs : sat s c [vs]) : GoodR P W0 X N c fr hp nx a o (appZ hp nx i.el t z s n) := by
  have hT := hi.sl hk
  have htx := hit.ik _ hik
  have hts' : cl.argTypes = #[T, tx] := by rw [← Array.toList_inj]; exact hts
  have h0 : 0 < tsz t := by rw [hie.ro t hro]; exact hsz
  have run : ∀ {w w' : World} {v' : Value}, (Builtin.append_ #[T, tx] o.type #[vs, .int kx n]).run P w = .ok v' w' → (execOp a.eval o).run P w = .ok (.value v') w' := fun {w w' v'} hr => by
    refine run_builtin hop hb ?_
    rw [hargs, hts']
    simp only [builtin, Sem.run_bind, hr, Result.andThen_ok, Sem.run_pure]
  obtain ⟨ti, hti, hzi, hszi, hbz⟩ := info_of hie hz
  have hzt : z.cells.size = tsz t := (hie.zs z hz).trans (hie.ro t hro).symm
  unfold appZ
  refine decK_ok (c := c) (no := R.no) (P := GoodR P W0 X N c fr hp nx a o) trivial t _ z.cells.toList _ (ofValues_ok c _) fun q' y hE => ?_
  have hzc : ∀ m, (Builtin.zeroCells z.cells m).toList = (madeCells z.cells (m * tsz t)).toList.take ((List.replicate m y).length * tsz t) := fun m => by
    have : Builtin.zeroCells z.cells m = madeCells z.cells (m * tsz t) := by rw [← hzt]; rfl
    rw [this, List.take_of_length_le (by simp [size_madeCells])]
  have flat : ∀ c1, Step c c1 → c1.w = c.w → flatC c1 (qb q' c1.b0) t (List.replicate n.toNat y) (Builtin.zeroCells z.cells n.toNat).toList := fun c1 st hw => by
    rw [hzc]
    exact made_flat hzt (memE_keeps (st.keeps id) t _ _ hE) n.toNat n.toNat (Nat.le_refl _)
  cases s with
  | v x =>
    cases x <;> try trivial
    rename_i A m b
    cases A with
    | some ad => trivial
    | none =>
      simp only []
      cases hn : (Nat.beq m 0 && Nat.beq b 0) with
      | false => trivial
      | true =>
        simp only [Bool.and_eq_true] at hn
        have h1 := Nat.eq_of_beq_eq_true hn.1
        have h2 := Nat.eq_of_beq_eq_true hn.2
        subst h1 h2
        rintro ⟨hn0, hlen⟩
        have ev : vs = .slice none 0 0 := by simpa [sat] using hs
        have hlen' : n.toNat ≤ 1000000000 := by simpa using hlen
        have hf := flat c (Step.refl c) rfl
        obtain ⟨v', c', hr, hG, hsat, _⟩ := app_src (P := P) (q := true) (l := []) (l' := List.replicate n.toNat y) h (.inl ⟨rfl, none, ev⟩) hf hT hie hz (hie.ro t hro) h0 hby (by simpa using hlen') o.type hti hzi hszi hbz (by
          rw [List.length_replicate]
          exact zero_src (kx := kx) hT htx hie hz hsz o.type hti hzi hszi hn0 (by omega) hby hbz (flatC_ones hf) c.w)
        refine ⟨v', c', run hr, ?_, ?_⟩
        · rw [snoc_eq]; simpa using hG
        · rw [h.nl]; simpa using hsat
  | ow j k m =>
    simp only []
    split
    · rename_i q t0 e0 l hj
      cases he : Nat.beq e0 i.el with
      | false => trivial
      | true =>
        have he' := Nat.eq_of_beq_eq_true he
        subst he'
        simp only [cond_true]
        refine castK_ok (no := R.no) (P := GoodR P W0 X N c fr hp nx a o) trivial fun e => ?_
        subst e
        rintro ⟨hn0, hlen⟩
        obtain ⟨hjn, hn, ev, _⟩ := hs
        have ev' : vs = c.val j := by simpa using ev
        obtain ⟨gk, sk, hkill⟩ := h.kill hjn (.inr trivial)
        have hold : ∀ i b, updF c.key j noK i b → i ≠ j ∧ c.key i b := fun i b hkb => by
          by_cases e : i = j
          · rw [e, updF_at] at hkb; exact hkb.elim
          · rw [updF_ne _ _ e] at hkb; exact ⟨e, hkb⟩
        have hbase : Base W0 X { c with key := updF c.key j noK } vs q t0 i.el l := by
          rw [ev']
          exact base_of h hj sk rfl rfl rfl hold fun b hkb => (h.ob.kb j b hjn hkb).1
        have hlen' : (l ++ List.replicate n.toNat y).length ≤ 1000000000 := hlen
        have hf := flat { c with key := updF c.key j noK } sk rfl
        obtain ⟨v', c', hr, hG, hsat, _⟩ := app_src (P := P) gk hbase hf hT hie hz (hie.ro t0 hro) h0 hby hlen' o.type hti hzi hszi hbz (by
          rw [List.length_replicate]
          exact zero_src (kx := kx) hT htx hie hz hsz o.type hti hzi hszi hn0 (by simp at hlen'; omega) hby hbz (flatC_ones hf) c.w)
        refine ⟨v', c', run hr, ?_, ?_⟩
        · rw [snoc_eq, setAO_eq]; exact hG
        · have : nx = (hp.set j .dead).length := by rw [h.nl]; simp
          rw [this]; exact hsat
    · trivial
  | _ => trivial
theorem good_makeSlice (h : Gam W0 X N c fr hp nx a) (T : TypeId) (x y : Operand) (hop : o.op = .makeSlice T x y) {i ie : TI} (hi : TIok P T i) (hk : i.kd = 3) (hie : TIok P i.el ie) {t : Ty} (hro : ie.ro = some t) (hsz : 0 < ie.sz) (hby : ie.by_ ≤ 100000) {z : Value} (hz : ie.ze = some z)
    {kx ky : IntKind} {n m : Int} (hx : a.eval x = .int kx n) (hy : a.eval y = .int ky m) :
    GoodR P W0 X N c fr hp nx a o (decK t (ofValues z.cells.toList) .no fun q e => .act 1 (0 ≤ n ∧ n ≤ m ∧ m ≤ 1000000000) (.ow nx (tsz t) n.toNat) (snoc hp (.row q t i.el (List.replicate n.toNat e)))) := by
  refine decK_ok (c := c) (no := R.no) (P := GoodR P W0 X N c fr hp nx a o) trivial t _ z.cells.toList _ (ofValues_ok c _) fun q e hE => ?_
  rintro ⟨h0, h1, h2⟩
  obtain ⟨ti, hti, hzi, hszi, hbz⟩ := info_of hie hz
  have hts := hie.ro t hro
  have hzs := hie.zs z hz
  have hfit : (ti.bytes : Int) * m ≤ 281474976710656 := by
    have : ti.bytes * m.toNat ≤ 140737488355328 := by rw [hbz, Nat.mul_comm]; exact len_fits (by omega) hby
    have h3 : ((ti.bytes * m.toNat : Nat) : Int) = (ti.bytes : Int) * m := by rw [Int.natCast_mul, Int.toNat_of_nonneg (by omega)]
    omega
  have hr := run_make (P := P) c.w T i.el ti z (hi.sl hk) hti hzi kx ky n m h0 h1 hfit (by omega)
  have hrun : (execOp a.eval o).run P c.w = .ok (.value (.slice (some ⟨c.w.heap.size, 0, none⟩) n.toNat m.toNat)) (c.w.alloc (.cells (madeCells z.cells (m.toNat * ti.size)) i.el)) := by
    unfold execOp; rw [hop]
    simp only [hx, hy, Sem.run_bind, hr, Result.andThen_ok, Sem.run_pure]
  have hsi : ti.size = tsz t := hszi.trans hts.symm
  have hzt : z.cells.size = tsz t := hzs.trans hts.symm
  rw [hsi] at hrun
  have hmn : n.toNat ≤ m.toNat := by omega
  obtain ⟨c', hw, hG, hs⟩ := h.made (e := i.el) (q := q) (l := List.replicate n.toNat e) (cap := m.toNat) (cur := madeCells z.cells (m.toNat * tsz t)) (by rw [hts]; exact hsz) (made_flat hzt hE n.toNat m.toNat hmn) (by simp; omega) (by unfold maxLen; omega) (size_madeCells _ _) (.inl ⟨rfl, rfl, rfl⟩)
  rw [snoc_eq]
  refine ⟨_, c', by rw [hw]; exact hrun, hG, ?_⟩
  have : nx = c.n := nx_n h
  rw [this]
  simpa using hs
theorem nilM_ok {w : World} {O : Nat → Prop} {b : Nat} : ∀ (t : Ty) (m : List (Option TypeId)) (o : Nat) (x : El t) (vs : List Value), nilM m (ofValues vs) = true → ownOkM t m = true → memE w O b t x vs → memM w O b (fun _ => .slice none 0 0) t m o x vs
  | .nil, _, _, _, _, _, _, h => h
  | .int k r, m, o, x, vs, hn, hk, ⟨vs', e, h⟩ => by
    subst e
    simp only [ofValues, nilM, Bool.and_eq_true] at hn
    exact ⟨vs', rfl, nilM_ok r _ _ x.2 vs' hn.2 hk h⟩
  | .bool r, m, o, x, vs, hn, hk, ⟨vs', e, h⟩ => by
    subst e
    simp only [ofValues, nilM, Bool.and_eq_true] at hn
    exact ⟨vs', rfl, nilM_ok r _ _ x.2 vs' hn.2 hk h⟩
  | .str r, m, o, x, vs, hn, hk, ⟨vs', e, h⟩ => by
    subst e
    simp only [ofValues, nilM, Bool.and_eq_true] at hn
    exact ⟨vs', rfl, nilM_ok r _ _ x.2 vs' hn.2 hk h⟩
  | .sl a r, m, o, x, vs, hn, hk, ⟨A, cp, vs', e, hl, hL, h⟩ => by
    subst e
    simp only [ownOkM, Bool.and_eq_true] at hk
    have htail : nilM (tailM m) (ofValues vs') = true := by
      cases A with
      | none => simp only [ofValues, nilM, Bool.and_eq_true] at hn; exact hn.2
      | some ad => simp only [ofValues, nilM, Bool.and_eq_true] at hn; exact hn.2
    refine ⟨_, vs', rfl, ?_, nilM_ok r _ _ x.2 vs' htail hk.2 h⟩
    cases hd : headM m with
    | none => exact ⟨A, cp, rfl, hl, hL⟩
    | some e' =>
      rw [hd] at hk
      have hp : 0 < tsz a := by simpa [Nat.blt_eq] using hk.1
      cases A with
      | none =>
        simp only [ofValues, nilM, Bool.and_eq_true, hd] at hn
        have h1 := Nat.eq_of_beq_eq_true hn.1.1
        have h2 := Nat.eq_of_beq_eq_true hn.1.2
        refine ⟨by rw [h1, h2], hp, .inl ⟨List.eq_nil_of_length_eq_zero h1, none, rfl⟩⟩
      | some ad =>
        simp only [ofValues, nilM, Bool.and_eq_true, hd] at hn
        exact absurd hn.1 (by simp)
theorem Gam.madeM (h : Gam W0 X N c fr hp nx a) {q : Bool} {t : Ty} {m : List (Option TypeId)} {e : TypeId} {l : List (El t)} {cur : Array Value} {cap : Nat} (h0 : 0 < tsz t) (hcap : l.length ≤ cap) (hcm : cap ≤ maxLen) (hcs : cur.size = cap * tsz t)
    (hf : ∀ j y, l[j]? = some y → memM c.w c.O (qb q c.b0) (fun _ => .slice none 0 0) t m 0 y ((cur.toList.drop (j * tsz t)).take (tsz t))) :
    ∃ c', c'.w = c.w.alloc (.cells cur e) ∧ Gam W0 X N c' fr (hp ++ [AO.mt q nilH t m e l]) (hp ++ [AO.mt q nilH t m e l]).length a ∧ sat (.ow c.n (tsz t) l.length) c' [.slice (some ⟨c.w.heap.size, 0, none⟩) l.length cap] := by
  have key := h.add (w' := c.w.alloc (.cells cur e)) (ix := c.n) (n' := c.n + 1) (ln := l.length) (k := (· = c.w.heap.size)) (lo := none) (v := .slice (some ⟨c.w.heap.size, 0, none⟩) l.length cap) (hv := at0_slice _ _ _) (ob := .mt q nilH t m e l) (fun _ => False) (.inl ⟨rfl, rfl, rfl⟩) (fun b hb => hb.elim)
    (by rw [alloc_size]; omega) (fun b hb _ => alloc_old _ _ hb) rfl rfl rfl (fun g hg => by have hg : g = c.w.heap.size := hg; subst hg; rw [alloc_size]; omega)
  have kp : Keeps c.w c.O (qb q c.b0) (c.w.alloc (.cells cur e)) (fun b => c.O b ∨ b = c.w.heap.size) (qb q c.b0) := ⟨fun b hO hb _ h' => by
    rcases h' with h' | h'
    · exact hO h'
    · omega, by rw [alloc_size]; omega, fun b _ hb _ => alloc_old _ _ hb, fun _ _ _ h => h⟩
  have hnil : ∀ x o, blkOf (nilH x o) = none := fun _ _ => rfl
  obtain ⟨hG, _⟩ := key (by
    refine ⟨h0, (updF_at _ _ _).symm, fun _ g hg => ?_, .inr ⟨c.w.heap.size, cap, cur, updF_at _ _ _, .of (alloc_new _ _), hcap, hcm, hcs, fun b => ?_, fun x o _ _ h3 => ?_, fun x o x' o' b _ _ _ _ h5 _ => ?_, fun j y hj => memM_keeps kp t m 0 y _ (fun p _ g hg => ?_) (hf j y hj)⟩⟩
    · rw [add_key] at hg
      have hg : g = c.w.heap.size := hg
      subst hg; exact h.ob.bz
    · rw [add_key]
      exact ⟨.inl, fun hb => hb.elim id fun ⟨x, o, _, _, h3⟩ => (by rw [hnil] at h3; cases h3)⟩
    · rw [hnil] at h3; cases h3
    · rw [hnil] at h5; cases h5
    · cases hg)
  exact ⟨_, rfl, hG, Nat.lt_succ_self _, (updF_at _ _ _).symm, by congr 1; exact (updF_at _ _ _).symm, some ⟨c.w.heap.size, 0, none⟩, cap, updF_at _ _ _, hcap⟩
theorem good_makeSliceM (h : Gam W0 X N c fr hp nx a) (T : TypeId) (x y : Operand) (hop : o.op = .makeSlice T x y) {i ie : TI} (hi : TIok P T i) (hk : i.kd = 3) (hie : TIok P i.el ie) {t : Ty} (hro : ie.ro = some t) (hsz : 0 < ie.sz) (hby : ie.by_ ≤ 100000) {z : Value} (hz : ie.ze = some z)
    {kx ky : IntKind} {n m : Int} (hx : a.eval x = .int kx n) (hy : a.eval y = .int ky m) {mk : List (Option TypeId)} (hnil : nilM mk (ofValues z.cells.toList) = true) (hok : ownOkM t mk = true) :
    GoodR P W0 X N c fr hp nx a o (decK t (ofValues z.cells.toList) .no fun q e => .act 1 (0 ≤ n ∧ n ≤ m ∧ m ≤ 1000000000) (.ow nx (tsz t) n.toNat) (snoc hp (.mt q nilH t mk i.el (List.replicate n.toNat e)))) := by
  refine decK_ok (c := c) (no := R.no) (P := GoodR P W0 X N c fr hp nx a o) trivial t _ z.cells.toList _ (ofValues_ok c _) fun q e hE => ?_
  rintro ⟨h0, h1, h2⟩
  obtain ⟨ti, hti, hzi, hszi, hbz⟩ := info_of hie hz
  have hts := hie.ro t hro
  have hzs := hie.zs z hz
  have hfit : (ti.bytes : Int) * m ≤ 281474976710656 := by
    have : ti.bytes * m.toNat ≤ 140737488355328 := by rw [hbz, Nat.mul_comm]; exact len_fits (by omega) hby
    have h3 : ((ti.bytes * m.toNat : Nat) : Int) = (ti.bytes : Int) * m := by rw [Int.natCast_mul, Int.toNat_of_nonneg (by omega)]
    omega
  have hr := run_make (P := P) c.w T i.el ti z (hi.sl hk) hti hzi kx ky n m h0 h1 hfit (by omega)
  have hrun : (execOp a.eval o).run P c.w = .ok (.value (.slice (some ⟨c.w.heap.size, 0, none⟩) n.toNat m.toNat)) (c.w.alloc (.cells (madeCells z.cells (m.toNat * ti.size)) i.el)) := by
    unfold execOp; rw [hop]
    simp only [hx, hy, Sem.run_bind, hr, Result.andThen_ok, Sem.run_pure]
  have hsi : ti.size = tsz t := hszi.trans hts.symm
  have hzt : z.cells.size = tsz t := hzs.trans hts.symm
  rw [hsi] at hrun
  have hmn : n.toNat ≤ m.toNat := by omega
  obtain ⟨c', hw, hG, hs⟩ := h.madeM (e := i.el) (q := q) (m := mk) (l := List.replicate n.toNat e) (cap := m.toNat) (cur := madeCells z.cells (m.toNat * tsz t)) (by rw [hts]; exact hsz) (by simp; omega) (by unfold maxLen; omega) (size_madeCells _ _) (fun j y hj => by
    have hflat := made_flat (c := c) (b := qb q c.b0) hzt hE n.toNat m.toNat hmn
    have hjn : j < n.toNat := by have := (List.getElem?_eq_some_iff.1 hj).1; simpa using this
    have hye : y = e := by rw [List.getElem?_replicate, if_pos hjn] at hj; injection hj with hj; exact hj.symm
    subst hye
    have hch : ((madeCells z.cells (m.toNat * tsz t)).toList.drop (j * tsz t)).take (tsz t) = z.cells.toList := by
      have hm2 : (j + 1) * tsz t ≤ m.toNat * tsz t := Nat.mul_le_mul_right _ (by omega)
      rw [Nat.add_mul] at hm2
      refine List.ext_getElem? fun p => ?_
      rw [List.getElem?_take]
      by_cases hp : p < tsz t
      · rw [if_pos hp, List.getElem?_drop, ← hzt, madeCells_get _ _ _ (by rw [hzt]; omega)]
        congr 1
        rw [Nat.mul_comm, Nat.mul_add_mod, Nat.mod_eq_of_lt (by omega)]
      · rw [if_neg hp]
        exact (List.getElem?_eq_none (by simp; omega)).symm
    rw [hch]
    exact nilM_ok t mk 0 y _ hnil hok hE)
  rw [snoc_eq]
  refine ⟨_, c', by rw [hw]; exact hrun, hG, ?_⟩
  have : nx = c.n := nx_n h
  rw [this]
  simpa using hs
theorem Gam.setO (h : Gam W0 X N c fr hp nx a) {i : Nat} {ob : AO} (hob : osat ob c i) : Gam W0 X N c fr (hp.set i ob) nx a := by
  have := h.turn (c' := c) (hp' := hp.set i ob) (Step.refl c) ⟨by simpa using h.nc, fun j o ho => ?_, h.ob.dj, h.ob.kb, h.ob.ol, h.ob.bz⟩ h.kx h.oo h.oz rfl rfl rfl (fun _ _ _ => rfl) (Nat.le_refl _)
  · rw [List.length_set, ← h.nl] at this; exact this
  · by_cases hij : i = j
    · subst hij
      have hl : i < hp.length := by have := (List.getElem?_eq_some_iff.1 ho).1; simpa using this
      have : o = ob := by simpa [hl] using ho.symm
      subst this; exact hob
    · rw [List.getElem?_set_ne hij] at ho
      exact h.o j o ho
theorem flatC_take {b : Nat} {t : Ty} {l : List (El t)} {xs : List Value} (h : flatC c b t l xs) (n : Nat) (hn : n ≤ l.length) : flatC c b t (l.take n) (xs.take (n * tsz t)) := by
  have hm : n * tsz t ≤ l.length * tsz t := Nat.mul_le_mul_right _ hn
  refine ⟨by rw [List.length_take, List.length_take, h.1, Nat.min_eq_left hn, Nat.min_eq_left hm], fun j y hj => ?_⟩
  rw [List.getElem?_take] at hj
  split at hj
  · rename_i hjn
    have hm2 : (j + 1) * tsz t ≤ n * tsz t := Nat.mul_le_mul_right _ hjn
    rw [Nat.add_mul] at hm2
    rw [List.drop_take, List.take_take, Nat.min_eq_left (by omega)]
    exact h.2 j y hj
  · cases hj
theorem flatC_drop {b : Nat} {t : Ty} {l : List (El t)} {xs : List Value} (h : flatC c b t l xs) (n : Nat) : flatC c b t (l.drop n) (xs.drop (n * tsz t)) := by
  refine ⟨by rw [List.length_drop, List.length_drop, h.1, Nat.sub_mul], fun j y hj => ?_⟩
  rw [List.getElem?_drop] at hj
  rw [List.drop_drop, ← Nat.add_mul]
  exact h.2 _ y hj
theorem rowAt_weak {j : Nat} {q q' : Bool} {t : Ty} {e : TypeId} {l : List (El t)} (h : rowAt c j q t e l) : rowAt c j (q && q') t e l := by
  obtain ⟨h0, h1, hq, xs, h2, h3, h4⟩ := h
  refine ⟨h0, h1, fun hqt => hq (by revert hqt; cases q <;> simp), xs, h2, h3, fun j y hj => memE_q (qb_mono (by simp; exact fun h _ => h) (Nat.le_refl _)) (h4 j y hj)⟩
theorem take_splice {α : Type} (L zs : List α) (p N : Nat) (h : p + zs.length ≤ N) (hN : N ≤ L.length) : (L.take p ++ zs ++ L.drop (p + zs.length)).take N = (L.take N).take p ++ (zs ++ (L.take N).drop (p + zs.length)) := by
  refine List.ext_getElem? fun n => ?_
  rw [← List.append_assoc, upd_get _ _ _ _ (by rw [List.length_take]; omega), List.getElem?_take, upd_get _ _ _ _ (by omega), List.getElem?_take]
  by_cases h1 : n < N
  · simp only [if_pos h1]
  · rw [if_neg h1, if_neg h1, if_neg (by omega), if_neg (by omega)]
theorem good_clear (h : Gam W0 X N c fr hp nx a) {cl : Call} (hop : o.op = .call cl) (hb : cl.callee = .builtin .clear) {t : TypeId} {ts : List TypeId} (hts : cl.argTypes.toList = t :: ts) {i ie : TI} (hi : TIok P t i) (hk : i.kd = 3) (hie : TIok P i.el ie) {z : Value} (hz : ie.ze = some z) {x : AV} {vx : Value} (hargs : cl.args.map a.eval = #[vx]) (hx : sat x c [vx]) :
    GoodR P W0 X N c fr hp nx a o (clearR hp ie.sz z x) := by
  have run : ∀ {w w' : World} {v' : Value}, (Builtin.clear_ cl.argTypes o.type #[vx]).run P w = .ok v' w' → (execOp a.eval o).run P w = .ok (.value v') w' := fun {w w' v'} hr => by
    refine run_builtin hop hb ?_
    rw [hargs]
    simp only [builtin, Sem.run_bind, hr, Result.andThen_ok, Sem.run_pure]
  have ht : cl.argTypes[0]? = some t := by rw [← Array.getElem?_toList, hts]; rfl
  have hu := hi.sl hk
  obtain ⟨ti, hti, hzi, hszi, hbz⟩ := info_of hie hz
  cases x with
  | ws j k' lo n =>
    simp only [clearR]
    split
    · rename_i q τ e l hj
      cases hkk : (Nat.beq (tsz τ) ie.sz && Nat.beq k' ie.sz) with
      | false => trivial
      | true =>
        simp only [Bool.and_eq_true] at hkk
        have hk1 := Nat.eq_of_beq_eq_true hkk.1
        have hk2 := Nat.eq_of_beq_eq_true hkk.2
        have hk3 : k' = tsz τ := hk2.trans hk1.symm
        subst hk3
        simp only [cond_true]
        have hzt : z.cells.size = tsz τ := (hie.zs z hz).trans hk1.symm
        refine decK_ok (c := c) (no := R.no) (P := GoodR P W0 X N c fr hp nx a o) trivial τ _ z.cells.toList _ (ofValues_ok c _) fun q' y hE => ?_
        intro hjl
        obtain ⟨hjn, hle, A, m, A', hv, hm, hA', ev⟩ := hx
        have ev' : vx = .slice A' n (m - lo) := by simpa using ev
        have hrow : rowAt c j q τ e l := h.o j _ (getAO_at hj (by simp))
        have hln : l.length = c.len j := hrow.2.1
        by_cases hn : n = 0
        · subst hn
          have hcl : clearL l lo 0 y = l := by simp [clearL]
          rw [hcl]
          refine ⟨.tuple #[], c, run ?_, h.setO (rowAt_weak hrow), ⟨#[], rfl, rfl⟩⟩
          rw [ev']
          unfold Builtin.clear_
          simp only [ht, List.getElem?_toArray, List.getElem?_cons_zero, Sem.run_bind, run_underlying hu, Result.andThen_ok]
          cases A' <;> rfl
        · obtain ⟨h0, h1, hq, xs, h2, h3, h4⟩ := hrow
          rcases h3 with ⟨e1, _⟩ | ⟨g, cap, cur, e1, e2, e3, e4, e5, e6, e7⟩
          · subst e1; simp at hln; omega
          · rw [e1] at hv
            injection hv with hv1 hv2 hv3
            have hA2 := hA' (by omega)
            rw [← hv1] at hA2
            have hA3 : A' = some ⟨g, lo * tsz τ, none⟩ := by rw [hA2]; simp [Addr.add_mid]
            have hzc : Builtin.zeroCells z.cells n = madeCells z.cells (n * tsz τ) := by rw [← hzt]; rfl
            have hflatz := made_flat (c := c) (b := qb q' c.b0) hzt hE n n (Nat.le_refl _)
            rw [List.take_of_length_le (by simp [size_madeCells]), ← hzc] at hflatz
            have hzl : (Builtin.zeroCells z.cells n).toList.length = n * tsz τ := by rw [hzc]; simp [size_madeCells]
            have hm1 : (lo + n) * tsz τ ≤ l.length * tsz τ := Nat.mul_le_mul_right _ (by omega)
            have hm2 : l.length * tsz τ ≤ cap * tsz τ := Nat.mul_le_mul_right _ e4
            rw [Nat.add_mul] at hm1
            have hst := run_storeCells_mk P g (lo * tsz τ) e (Builtin.zeroCells z.cells n).toList 0 cur c.w e3 (by rw [hzl, e6]; omega) (flatC_ones hflatz)
            simp only [Nat.add_zero, hzl] at hst
            generalize hcur' : (cur.toList.take (lo * tsz τ) ++ (Builtin.zeroCells z.cells n).toList ++ cur.toList.drop (lo * tsz τ + n * tsz τ)).toArray = cur' at hst
            have hcs : cur'.size = cur.size := by
              rw [← hcur']; simp only [List.size_toArray, List.length_append, List.length_take, List.length_drop, hzl, Array.length_toList]; omega
            have hold : flatC c (qb q c.b0) τ l (cur.toList.take (l.length * tsz τ)) := ⟨by rw [e7]; exact h2, fun j y hj => by rw [e7]; exact h4 j y hj⟩
            have hnew : flatC c (qb (q && q') c.b0) τ (clearL l lo n y) (cur'.toList.take ((clearL l lo n y).length * tsz τ)) := by
              have hlen : (clearL l lo n y).length = l.length := by simp [clearL]; omega
              have hp1 := flatC_take hold lo (by omega)
              have hp2 := flatC_drop hold (lo + n)
              have hq1 : qb (q && q') c.b0 ≤ qb q c.b0 := qb_mono (by simp; exact fun h _ => h) (Nat.le_refl _)
              have hq2 : qb (q && q') c.b0 ≤ qb q' c.b0 := qb_mono (by simp) (Nat.le_refl _)
              have := flatC_app hp1 (flatC_app hflatz hp2 hq2 hq1) hq1 (Nat.le_refl _)
              rw [hlen]
              have hcL : cur.toList.length = cap * tsz τ := by rw [Array.length_toList]; exact e6
              have he : cur'.toList.take (l.length * tsz τ) = List.take (lo * tsz τ) (List.take (l.length * tsz τ) cur.toList) ++ ((Builtin.zeroCells z.cells n).toList ++ List.drop ((lo + n) * tsz τ) (List.take (l.length * tsz τ) cur.toList)) := by
                rw [← hcur']
                have := take_splice cur.toList (Builtin.zeroCells z.cells n).toList (lo * tsz τ) (l.length * tsz τ) (by rw [hzl]; omega) (by omega)
                rw [hzl] at this
                rw [Nat.add_mul]
                exact this
              rw [he]; exact this
            have hclen : (clearL l lo n y).length = l.length := by simp [clearL]; omega
            obtain ⟨hg, _⟩ := h.setW (w' := c.w.setRow g cur') (ob := .row (q && q') τ e (clearL l lo n y)) hjn ((e2 g).2 rfl) (size_setRow _ _ _) (fun k hkb => setRow_other _ _ _ _ hkb) rfl rfl rfl (fun st => by
              have hk := flatC_keeps (c' := c.to (c.w.setRow g cur')) (st.keeps (q := q && q') (q' := q && q') id) hnew
              exact ⟨h0, by rw [hclen]; exact h1, fun hqt => hq (by revert hqt; cases q <;> simp), _, hk.1, .inr ⟨g, cap, cur', by rw [hclen]; exact e1, e2, e3.set _ hcs, by rw [hclen]; exact e4, e5, by rw [hcs]; exact e6, rfl⟩, hk.2⟩)
            refine ⟨.tuple #[], _, run ?_, hg, ⟨#[], rfl, rfl⟩⟩
            rw [ev', hA3]
            unfold Builtin.clear_
            have hzv : (zeroValue i.el).run P c.w = .ok z c.w := by simp [zeroValue, typeInfo, hti, hzi, Sem.run_bind]
            simp only [ht, List.getElem?_toArray, List.getElem?_cons_zero, Sem.run_bind, run_underlying hu, Result.andThen_ok]
            obtain ⟨n', rfl⟩ : ∃ n', n = n' + 1 := ⟨n - 1, by omega⟩
            simp only [Sem.run_bind, hzv, Result.andThen_ok, hst, Sem.run_pure]
            rfl
    · trivial
  | _ => trivial
def repV (zs : List Value) : Nat → List Value
  | 0 => []
  | n + 1 => zs ++ repV zs n
theorem repV_len (zs : List Value) : ∀ n, (repV zs n).length = n * zs.length
  | 0 => by simp [repV]
  | n + 1 => by simp [repV, repV_len zs n, Nat.add_mul]; omega
theorem repV_get (zs : List Value) : ∀ (n p : Nat), p < n * zs.length → (repV zs n)[p]? = zs[p % zs.length]?
  | 0, p, h => by simp at h
  | n + 1, p, h => by
    simp only [repV]
    by_cases hp : p < zs.length
    · rw [List.getElem?_append_left hp, Nat.mod_eq_of_lt hp]
    · rw [List.getElem?_append_right (by omega), repV_get zs n _ (by rw [Nat.add_mul] at h; omega), ← Nat.mod_eq_sub_mod (by omega)]
theorem made_rep (z : Array Value) (n : Nat) : (madeCells z (n * z.size)).toList = repV z.toList n := by
  refine List.ext_getElem? fun p => ?_
  have hl : (madeCells z (n * z.size)).toList.length = n * z.size := by simp [size_madeCells]
  by_cases hp : p < n * z.size
  · rw [madeCells_get _ _ _ hp, repV_get _ _ _ (by simpa using hp)]
    simp
  · rw [List.getElem?_eq_none (by omega), List.getElem?_eq_none (by rw [repV_len]; simpa using hp)]
theorem lit_ok {c : Cx} (zs : List Value) : ∀ (n : Nat) (acc : AV) (vs : List Value), sat acc c vs → sat (litCells n (ofValues zs) acc) c (repV zs n ++ vs)
  | 0, acc, vs, h => h
  | n + 1, acc, vs, h => by
    have := lit_ok zs n _ _ (sat_app (ofValues zs) ⟨zs.length, ofValues_len zs⟩ (ofValues_ok c zs) h)
    rw [← List.append_assoc] at this
    have he : repV zs n ++ zs = repV zs (n + 1) := by
      have : ∀ n, repV zs n ++ zs = zs ++ repV zs n := fun n => by
        induction n with
        | zero => simp [repV]
        | succ n ih => simp only [repV, List.append_assoc, ih]
      rw [this]; rfl
    rw [he] at this
    exact this
where ofValues_len : ∀ (l : List Value), lenIs (ofValues l) l.length = true
  | [] => rfl
  | _ :: r => ofValues_len r
theorem fold_size (off : Nat) : ∀ (xs : List (Value × Nat)) (cs : Array Value), (xs.foldl (fun (cs : Array Value) (p : Value × Nat) => cs.setIfInBounds (off + p.2) p.1) cs).size = cs.size
  | [], _ => rfl
  | x :: r, cs => by rw [List.foldl_cons, fold_size off r]; simp
theorem fill_size (pl : Nat → Option (Nat × Nat)) : ∀ (parts : List (Nat × Value)) {cs cs' : Array Value}, Instr.fill pl cs parts = some cs' → cs'.size = cs.size
  | [], cs, cs', h => by injection h with h; rw [h]
  | (i, v) :: r, cs, cs', h => by
    simp only [Instr.fill] at h
    split at h
    · cases h
    · rename_i off sz _
      split at h
      · cases h
      · rw [fill_size pl r h, ← Array.foldl_toList]
        exact fold_size off _ cs
theorem run_lit {T e : TypeId} {i : TypeInfo} {z : Value} (ht : P.underlying T = some (.slice e)) (hi : P.info? e = some i) (hz : i.zero = some z) (hzs : z.cells.size = i.size) {n : Nat} (hn : n ≤ 10000) (hs : i.size ≤ 1000) (h0 : 0 < i.size) {parts : Array (Nat × Value)} {cells : Array Value}
    (h : Instr.fill (fun j => some (j * i.size, i.size)) (madeCells z.cells (n * i.size)) parts.toList = some cells) (w : World) :
    (Instr.buildSlice T n parts).run P w = .ok (.slice (some ⟨w.heap.size, 0, none⟩) n n) (w.alloc (.cells cells e)) := by
  by_cases hn0 : n = 0
  · subst hn0
    have h' : Instr.fill (fun j => some (j * i.size, i.size)) #[] parts.toList = some cells := by
      rw [← h]; congr 1; simp [madeCells]
    have e0 : (Array.map (fun _ : Nat => (default : Value)) (Array.range 0)) = #[] := by simp
    simp [Instr.buildSlice, run_underlying ht, sizeOf, typeInfo, hi, hz, Sem.run_bind, newRow]
    rw [e0, h']
    rfl
  · have hle : n * i.size ≤ 10000 * 1000 := Nat.mul_le_mul hn hs
    exact run_buildSlice w T e n parts cells i z ht hi hz (by omega) (by intro h; rcases Nat.mul_eq_zero.1 h with h | h <;> omega) h
theorem good_lit (h : Gam W0 X N c fr hp nx a) (T : TypeId) (n : Nat) (parts : Array (Nat × Operand)) (hop : o.op = .buildSlice T n parts) {i ie : TI} (hi : TIok P T i) (hk : i.kd = 3) (hie : TIok P i.el ie) {t : Ty} (hro : ie.ro = some t) (hsz : 0 < ie.sz) (hn : n ≤ 10000) (hsl : ie.sz ≤ 1000) {z : Value} (hz : ie.ze = some z)
    (hx : ∀ p ∈ parts.toList, sat (ρ p.2) c [a.eval p.2]) {l : AV} (hl : fillA (fun j => some (j * ie.sz, ie.sz)) (litCells n (ofValues z.cells.toList) .nil) (parts.toList.map fun p => (p.1, ρ p.2)) = some l) {q : Bool} {xs : List (El t)} (hxs : decO t n (unow hp l) = some (q, xs)) :
    (∃ c', (execOp a.eval o).run P c.w = .ok (.value (.slice (some ⟨c.w.heap.size, 0, none⟩) n n)) c'.w ∧ Gam W0 X N c' fr (frz (owsOf l) hp ++ [.row q t i.el xs]) (frz (owsOf l) hp ++ [AO.row q t i.el xs]).length a ∧ sat (.ow nx (tsz t) n) c' [.slice (some ⟨c.w.heap.size, 0, none⟩) n n]) ∧
    (owsOf l = [] → ∀ sl, hp[sl]? = some .void → ∃ c', (execOp a.eval o).run P c.w = .ok (.value (.slice (some ⟨c.w.heap.size, 0, none⟩) n n)) c'.w ∧ Gam W0 X N c' fr (hp.set sl (.row q t i.el xs)) nx a ∧ sat (.ow sl (tsz t) n) c' [.slice (some ⟨c.w.heap.size, 0, none⟩) n n]) := by
  obtain ⟨ti, hti, hzi, hszi, hbz⟩ := info_of hie hz
  have hts := hie.ro t hro
  have hsi : ti.size = tsz t := hszi.trans hts.symm
  have hzs : z.cells.size = ti.size := (hie.zs z hz).trans hszi.symm
  have hsat0 : sat (litCells n (ofValues z.cells.toList) .nil) c (madeCells z.cells (n * ti.size)).toList := by
    have := lit_ok (c := c) z.cells.toList n .nil [] rfl
    rw [List.append_nil, ← made_rep, hzs] at this
    exact this
  obtain ⟨cells, hfill, hsc⟩ := fillA_ok (c := c) _ _ (parts.map fun (i, x) => (i, a.eval x)).toList hl (cs := madeCells z.cells (n * ti.size)) hsat0 (by simp) (fun k p v hk hv => by
    simp only [List.getElem?_map, Option.map_eq_some_iff, Array.toList_map] at hk hv
    obtain ⟨q, hq, rfl⟩ := hk
    obtain ⟨q', hq', rfl⟩ := hv
    rw [hq] at hq'; injection hq' with hq'; subst hq'
    exact ⟨rfl, hx q (List.mem_of_getElem? hq)⟩)
  rw [← hszi] at hfill
  have hr := run_lit (P := P) (hi.sl hk) hti hzi hzs hn (by omega) (by omega) hfill c.w
  have hrun : (execOp a.eval o).run P c.w = .ok (.value (.slice (some ⟨c.w.heap.size, 0, none⟩) n n)) (c.w.alloc (.cells cells i.el)) := by
    unfold execOp; rw [hop]
    simp only [Sem.run_bind]
    rw [hr]
    rfl
  have hcsz : cells.size = n * tsz t := by rw [fill_size _ _ hfill, size_madeCells, hsi]
  obtain ⟨c1, w1, n1, v1, b1, k1, kk, g1, s1, ln1, o1, f1⟩ := h.freeze (owsOf l)
  have hsu := unow_ok h.ob s1 l (owsOf l) (fun i hi => hi) f1 hsc
  obtain ⟨hx1, hx2, hx3⟩ := decO_ok hsu hxs
  have hflat : flatC c1 (qb q c1.b0) t xs (cells.toList.take (xs.length * tsz t)) := by
    rw [hx1, List.take_of_length_le (by simp [hcsz])]
    exact ⟨by rw [hx1]; simp [hcsz], hx3⟩
  have hpos : 0 < tsz t := by omega
  constructor
  · obtain ⟨c', hw, hG, hs⟩ := g1.made (e := i.el) (q := q) (cap := n) hpos hflat (by omega) (by unfold maxLen; omega) hcsz (.inl ⟨rfl, rfl, rfl⟩)
    refine ⟨c', by rw [hw, w1]; exact hrun, hG, ?_⟩
    rw [n1, w1, hx1, ← nx_n h] at hs
    exact hs
  · intro hnil sl hsl
    have hsu0 := unow_ok h.ob (Step.refl c) l [] (by rw [hnil]; intro i hi; cases hi) (fun i hi => by cases hi) hsc
    obtain ⟨hy1, hy2, hy3⟩ := decO_ok hsu0 hxs
    have hflat0 : flatC c (qb q c.b0) t xs (cells.toList.take (xs.length * tsz t)) := by
      rw [hy1, List.take_of_length_le (by simp [hcsz])]
      exact ⟨by rw [hy1]; simp [hcsz], hy3⟩
    obtain ⟨c', hw, hG, hs⟩ := h.made (e := i.el) (q := q) (cap := n) hpos hflat0 (by omega) (by unfold maxLen; omega) hcsz (.inr ⟨hsl, rfl, rfl⟩)
    refine ⟨c', by rw [hw]; exact hrun, ?_, ?_⟩
    · rw [h.nl]; rw [List.length_set] at hG; exact hG
    · rw [hy1] at hs; exact hs
end
end Go.Proofs.Ytdhpjpidcbplbaa.Eng

/- ENGINE 2, 5E: callees that are handed own objects, or look at them. -/
namespace Go.Proofs.Ytdhpjpidcbplbaa.Eng
open Go Go.RowKit
theorem idx_at : ∀ (π : List Nat) (i j : Nat), idx π i = some j → π[j]? = some i
  | [], _, _, h => by cases h
  | x :: r, i, j, h => by
    simp only [idx] at h
    cases hx : Nat.beq x i with
    | true =>
      rw [hx] at h
      simp only [cond_true, Option.some.injEq] at h
      subst h
      have := Nat.eq_of_beq_eq_true hx
      simp [this]
    | false =>
      rw [hx] at h
      simp only [cond_false] at h
      cases hr : idx r i with
      | none => simp [hr] at h
      | some k =>
        simp only [hr, Option.some.injEq] at h
        subst h
        simpa using idx_at r i k hr
theorem idx_none : ∀ (π : List Nat) (i : Nat), idx π i = none → ¬ i ∈ π
  | [], _, _, h => by cases h
  | x :: r, i, h, hm => by
    simp only [idx] at h
    cases hx : Nat.beq x i with
    | true => simp [hx] at h
    | false =>
      simp only [hx, cond_false] at h
      cases hr : idx r i with
      | some k => simp [hr] at h
      | none =>
        rcases List.mem_cons.1 hm with rfl | hm
        · simp at hx
        · exact idx_none r i hr hm
theorem idx_of : ∀ (π : List Nat) (i j : Nat), π.Nodup → π[j]? = some i → idx π i = some j
  | [], _, _, _, h => by simp at h
  | x :: r, i, 0, hn, h => by
    have : x = i := by simpa using h
    subst this
    simp [idx]
  | x :: r, i, j + 1, hn, h => by
    have hr : r[j]? = some i := by simpa using h
    have hne : x ≠ i := fun e => by
      have := (List.nodup_cons.1 hn).1
      exact this (e ▸ List.mem_of_getElem? hr)
    simp only [idx, beq_ne hne, cond_false, idx_of r i j (List.nodup_cons.1 hn).2 hr]
theorem renI_lt : ∀ (π : List Nat) (base j i : Nat), π[j]? = some i → renI π base j = i
  | [], _, _, _, h => by simp at h
  | x :: r, base, 0, i, h => by simpa [renI] using h
  | x :: r, base, j + 1, i, h => by simpa [renI] using renI_lt r base j i (by simpa using h)
theorem renI_ge : ∀ (π : List Nat) (base j : Nat), π.length ≤ j → renI π base j = base + (j - π.length)
  | [], _, _, _ => rfl
  | x :: r, base, 0, h => by simp at h
  | x :: r, base, j + 1, h => by
    simp only [renI]
    rw [renI_ge r base j (by simpa using h)]
    simp
theorem hasN_iff : ∀ (l : List Nat) (i : Nat), hasN l i = true ↔ i ∈ l
  | [], i => by simp [hasN]
  | x :: r, i => by
    simp only [hasN, Bool.or_eq_true, List.mem_cons, hasN_iff r i]
    constructor
    · rintro (h | h)
      · exact .inl (Nat.eq_of_beq_eq_true h).symm
      · exact .inr h
    · rintro (h | h)
      · subst h; exact .inl (by simp)
      · exact .inr h
theorem reach_nodup (hp : List AO) : ∀ (d : Nat) (todo acc : List Nat), acc.Nodup → (reach hp d todo acc).Nodup
  | 0, todo, acc, h => by cases todo <;> exact h
  | d + 1, [], acc, h => h
  | d + 1, i :: r, acc, h => by
    simp only [reach]
    cases hi : hasN acc i with
    | true => exact reach_nodup hp d r acc h
    | false =>
      simp only [cond_false]
      refine reach_nodup hp d _ _ (List.nodup_append.2 ⟨h, by simp, fun x hx y hy => ?_⟩)
      have : y = i := by simpa using hy
      subst this
      intro e; subst e
      rw [← hasN_iff] at hx
      rw [hx] at hi; cases hi
def Cx.pull (c : Cx) (π : List Nat) : Cx :=
  ⟨c.w, fun j => match π[j]? with | some i => c.key i | none => noK, fun j => (π[j]?).bind c.loc, fun j => match π[j]? with | some i => c.val i | none => .bool false, fun j => match π[j]? with | some i => c.len i | none => 0, π.length, c.O, c.b0,
    fun j => by split; exact c.one _; rfl, fun j A n m h => by
      split at h
      · exact c.at0 _ A n m h
      · cases h⟩
theorem pull_val {c : Cx} {π : List Nat} {j i : Nat} (h : π[j]? = some i) : (c.pull π).val j = c.val i ∧ (c.pull π).len j = c.len i ∧ (c.pull π).key j = c.key i ∧ (c.pull π).loc j = c.loc i := by
  unfold Cx.pull
  simp [h]
theorem abs_ok {c : Cx} {π : List Nat} : ∀ (v : AV) {v' : AV} {vs : List Value}, absA π v = some v' → sat v c vs → sat v' (c.pull π) vs
  | .u, v', _, h, hs => by simp only [absA, Option.some.injEq] at h; subst h; exact hs
  | .v x, v', _, h, hs => by simp only [absA, Option.some.injEq] at h; subst h; exact hs
  | .nil, v', _, h, hs => by simp only [absA, Option.some.injEq] at h; subst h; exact hs
  | .em, v', _, h, hs => by simp only [absA, Option.some.injEq] at h; subst h; exact hs
  | .cons a b, v', _, h, ⟨x, r, e, h1, h2⟩ => by
    simp only [absA] at h
    split at h
    · rename_i a' b' ha hb
      injection h with h; subst h
      exact ⟨x, r, e, abs_ok a ha h1, abs_ok b hb h2⟩
    · cases h
  | .agg l, v', _, h, ⟨cs, e, h1⟩ => by
    simp only [absA] at h
    split at h
    · rename_i l' hl
      injection h with h; subst h
      exact ⟨cs, e, abs_ok l hl h1⟩
    · cases h
  | .tup l, v', _, h, ⟨cs, e, h1⟩ => by
    simp only [absA] at h
    split at h
    · rename_i l' hl
      injection h with h; subst h
      exact ⟨cs, e, abs_ok l hl h1⟩
    · cases h
  | .fn f l, v', _, h, ⟨cs, e, h1⟩ => by
    simp only [absA] at h
    split at h
    · rename_i l' hl
      injection h with h; subst h
      exact ⟨cs, e, abs_ok l hl h1⟩
    · cases h
  | .gd b x, v', _, h, ⟨y, e, h1, h2⟩ => by
    simp only [absA] at h
    split at h
    · rename_i x' hx
      injection h with h; subst h
      exact ⟨y, e, fun hb => abs_ok x hx (h1 hb), h2⟩
    · cases h
  | .ptr i o, v', _, h, ⟨hi, b, hb, e⟩ => by
    simp only [absA] at h
    split at h
    · rename_i j hj
      injection h with h; subst h
      have hp := idx_at π i j hj
      exact ⟨(List.getElem?_eq_some_iff.1 hp).1, b, by rw [(pull_val hp).2.2.2]; exact hb, e⟩
    · cases h
  | .sc i o n m t, v', _, h, ⟨hi, b, hb, e⟩ => by
    simp only [absA] at h
    split at h
    · rename_i j hj
      injection h with h; subst h
      have hp := idx_at π i j hj
      exact ⟨(List.getElem?_eq_some_iff.1 hp).1, b, by rw [(pull_val hp).2.2.2]; exact hb, e⟩
    · cases h
  | .rl q t l, v', _, h, hs => by simp only [absA, Option.some.injEq] at h; subst h; exact hs
  | .rc q t l, v', _, h, hs => by simp only [absA, Option.some.injEq] at h; subst h; exact hs
  | .rp k e o, v', _, h, ⟨b, q, hv, hO, hb, hc⟩ => by
    simp only [absA, Option.some.injEq] at h; subst h
    refine ⟨b, q, hv, hO, hb, fun j hj => ?_⟩
    obtain ⟨x, hx, hs⟩ := hc j hj
    refine ⟨x, hx, sat_step (c := c.bare) (c' := (c.pull π).bare) (e j) ⟨Nat.le_refl _, fun _ _ h => absurd h (Nat.not_lt_zero _), fun _ h => absurd h (Nat.not_lt_zero _), fun _ h _ => h, Nat.le_refl _, fun _ _ _ => rfl, Nat.le_refl _⟩ hs⟩
  | .ow i k n, v', _, h, ⟨hi, hn, e, A, m, hv, hm⟩ => by
    simp only [absA] at h
    split at h
    · rename_i j hj
      injection h with h; subst h
      have hp := idx_at π i j hj
      have q := pull_val (c := c) hp
      exact ⟨(List.getElem?_eq_some_iff.1 hp).1, by rw [q.2.1]; exact hn, by rw [q.1]; exact e, A, m, by rw [q.1]; exact hv, hm⟩
    · cases h
  | .ws i k lo n, v', _, h, ⟨hi, hn, A, m, A', hv, hm, hA, e⟩ => by
    simp only [absA] at h
    split at h
    · rename_i j hj
      injection h with h; subst h
      have hp := idx_at π i j hj
      have q := pull_val (c := c) hp
      exact ⟨(List.getElem?_eq_some_iff.1 hp).1, by rw [q.2.1]; exact hn, A, m, A', by rw [q.1, q.2.1]; exact hv, by rw [q.2.1]; exact hm, hA, e⟩
    · cases h
  | .op i k x o, v', _, h, ⟨hi, hx, b, hb, e⟩ => by
    simp only [absA] at h
    split at h
    · rename_i j hj
      injection h with h; subst h
      have hp := idx_at π i j hj
      have q := pull_val (c := c) hp
      exact ⟨(List.getElem?_eq_some_iff.1 hp).1, by rw [q.2.1]; exact hx, b, by rw [q.1]; exact hb, e⟩
    · cases h
  | .iw i x o k n hd, v', _, h, ⟨⟨hi, hx, b, hb⟩, e⟩ => by
    simp only [absA] at h
    split at h
    · rename_i j hj
      injection h with h; subst h
      have hp := idx_at π i j hj
      have q := pull_val (c := c) hp
      exact ⟨⟨(List.getElem?_eq_some_iff.1 hp).1, by rw [q.2.1]; exact hx, b, by rw [q.1]; exact hb⟩, e⟩
    · cases h
  | .ip i x o k y z hd, v', _, h, ⟨⟨hi, hx, b, hb⟩, e⟩ => by
    simp only [absA] at h
    split at h
    · rename_i j hj
      injection h with h; subst h
      have hp := idx_at π i j hj
      have q := pull_val (c := c) hp
      exact ⟨⟨(List.getElem?_eq_some_iff.1 hp).1, by rw [q.2.1]; exact hx, b, by rw [q.1]; exact hb⟩, e⟩
    · cases h
  | .mp i, v', _, h, ⟨hi, ⟨b, hb⟩, e⟩ => by
    simp only [absA] at h
    split at h
    · rename_i j hj
      injection h with h; subst h
      have hp := idx_at π i j hj
      have q := pull_val (c := c) hp
      exact ⟨(List.getElem?_eq_some_iff.1 hp).1, ⟨b, by rw [q.1]; exact hb⟩, by rw [q.1]; exact e⟩
    · cases h
  | .mw i t x n hd, v', _, h, ⟨⟨hi, b, hb⟩, e⟩ => by
    simp only [absA] at h
    split at h
    · rename_i j hj
      injection h with h; subst h
      have hp := idx_at π i j hj
      have q := pull_val (c := c) hp
      exact ⟨⟨(List.getElem?_eq_some_iff.1 hp).1, b, by rw [q.1]; exact hb⟩, e⟩
    · cases h
  | .mq i t x k y z hd, v', _, h, ⟨⟨hi, b, hb⟩, e⟩ => by
    simp only [absA] at h
    split at h
    · rename_i j hj
      injection h with h; subst h
      have hp := idx_at π i j hj
      have q := pull_val (c := c) hp
      exact ⟨⟨(List.getElem?_eq_some_iff.1 hp).1, b, by rw [q.1]; exact hb⟩, e⟩
    · cases h
theorem pull_step {c : Cx} {π : List Nat} : Keeps c.w c.O 0 (c.pull π).w (c.pull π).O 0 := ⟨fun _ h _ _ => h, Nat.le_refl _, fun _ _ _ _ => rfl, fun _ _ _ h => h⟩
theorem absO_ok {c : Cx} {π : List Nat} {o o' : AO} {i j : Nat} (hp : π[j]? = some i) (h : absO π o = some o') (hs : osat o c i) : osat o' (c.pull π) j := by
  have q := pull_val (c := c) hp
  cases o with
  | cells l =>
    simp only [absO] at h
    split at h
    · rename_i l' hl
      injection h with h; subst h
      obtain ⟨b, cs, t, h1, h2, h3, h4⟩ := hs
      exact ⟨b, cs, t, by rw [q.2.2.2]; exact h1, by rw [q.2.2.1]; exact h2, h3, abs_ok l hl h4⟩
    · cases h
  | row qq t e l =>
    simp only [absO, Option.some.injEq] at h; subst h
    obtain ⟨h0, h1, hq, xs, h2, h3, h4⟩ := hs
    refine ⟨h0, by rw [q.2.1]; exact h1, fun hqt g hg => hq hqt g (by rw [← q.2.2.1]; exact hg), xs, h2, ?_, h4⟩
    rcases h3 with ⟨e1, A, e2, e3⟩ | ⟨g, cap, cur, e1, e2, e3⟩
    · exact .inl ⟨e1, A, by rw [q.1]; exact e2, by rw [q.2.2.1]; exact e3⟩
    · exact .inr ⟨g, cap, cur, by rw [q.1]; exact e1, by rw [q.2.2.1]; exact e2, e3⟩
  | mt qq H t m e l =>
    simp only [absO, Option.some.injEq] at h; subst h
    exact mtAt_congr (c := c) (i := i) rfl rfl rfl q.1 q.2.1 q.2.2.1 hs
  | mpo ka va kt vt out it l =>
    have kp : Keeps c.w c.O (qb false c.b0) (c.pull π).w (c.pull π).O (qb false (c.pull π).b0) := ⟨fun _ h _ _ => h, Nat.le_refl _, fun _ _ _ _ => rfl, fun _ _ _ h => h⟩
    cases it with
    | none =>
      simp only [absO, Option.some.injEq] at h; subst h
      exact mapAt_congr (c := c) (i := i) (f := fun j => j) q.1 q.2.2.1 kp (fun _ _ => rfl) (fun j r _ _ ⟨z, hz⟩ => by cases hz) hs
    | some z =>
      obtain ⟨i', y, rr⟩ := z
      simp only [absO] at h
      split at h
      · rename_i jj hjj
        injection h with h; subst h
        have hpp := idx_at π i' jj hjj
        have qq := pull_val (c := c) hpp
        exact mapAt_congr (c := c) (i := i) (f := fun _ => jj) q.1 q.2.2.1 kp (fun _ _ => rfl) (fun j r _ hl ⟨z, hz⟩ => by
          injection hz with hz
          injection hz with hz _
          subst hz
          exact ⟨(List.getElem?_eq_some_iff.1 hpp).1, by rw [qq.2.2.2]; exact hl⟩) hs
      · cases h
  | itp jj =>
    simp only [absO] at h
    split at h
    · injection h with h; subst h
      trivial
    · cases h
  | fz qq t l =>
    simp only [absO, Option.some.injEq] at h; subst h
    obtain ⟨h1, h2, h3, h4⟩ := hs
    exact ⟨by rw [q.2.2.1]; exact h1, by rw [q.2.1]; exact h2, by rw [q.1]; exact h3, by rw [q.1]; exact h4⟩
  | dead => simp [absO] at h
  | void => simp [absO] at h
theorem lentOf_ok {π0 : List Nat} {hp : List AO} : ∀ (l : List Nat) {ls : List AO}, lentOf π0 hp l = some ls → ls.length = l.length ∧ ∀ (j i : Nat), l[j]? = some i → ∃ o, ls[j]? = some o ∧ absO π0 (getAO hp i) = some o
  | [], ls, h => by
    injection h with h; subst h
    exact ⟨rfl, fun j i h => by simp at h⟩
  | i :: r, ls, h => by
    simp only [lentOf] at h
    split at h
    · rename_i o l ho hl
      injection h with h; subst h
      obtain ⟨h1, h2⟩ := lentOf_ok r hl
      refine ⟨by simp [h1], fun j k hj => ?_⟩
      cases j with
      | zero =>
        have : i = k := by simpa using hj
        subst this
        exact ⟨o, rfl, ho⟩
      | succ j => exact h2 j k (by simpa using hj)
    · cases h
theorem updAll_get : ∀ (π : List Nat) (l hp : List AO), π.Nodup → l.length = π.length → (updAll hp π l).length = hp.length ∧ (∀ i : Nat, ¬ i ∈ π → (updAll hp π l)[i]? = hp[i]?) ∧ ∀ (j i : Nat) (o : AO), π[j]? = some i → l[j]? = some o → i < hp.length → (updAll hp π l)[i]? = some o
  | [], l, hp, _, _ => by
    have e : updAll hp [] l = hp := by cases l <;> rfl
    rw [e]
    exact ⟨rfl, fun _ _ => rfl, fun j i o h => by simp at h⟩
  | x :: r, [], hp, _, h => by simp at h
  | x :: r, o :: l, hp, hn, hl => by
    obtain ⟨h1, h2, h3⟩ := updAll_get r l (setAO hp x o) (List.nodup_cons.1 hn).2 (by simpa using hl)
    have e : updAll hp (x :: r) (o :: l) = updAll (setAO hp x o) r l := rfl
    rw [e]
    refine ⟨by rw [h1, setAO_eq]; simp, fun i hi => ?_, fun j i o' hj ho hlt => ?_⟩
    · simp at hi
      rw [h2 i hi.2, setAO_eq, List.getElem?_set_ne (fun e => hi.1 e.symm)]
    · cases j with
      | zero =>
        have hx : x = i := by simpa using hj
        have ho' : o = o' := by simpa using ho
        subst hx ho'
        rw [h2 x (List.nodup_cons.1 hn).1, setAO_eq]
        simp [hlt]
      | succ j => exact h3 j i o' (by simpa using hj) (by simpa using ho) (by rw [setAO_eq]; simpa using hlt)
def Cx.merge (c c' : Cx) (π : List Nat) : Cx :=
  let σ : Nat → Option Nat := fun i => if i < c.n then idx π i else some (π.length + (i - c.n))
  ⟨c'.w, fun i => match σ i with | some j => c'.key j | none => c.key i, fun i => match σ i with | some j => c'.loc j | none => c.loc i, fun i => match σ i with | some j => c'.val j | none => c.val i, fun i => match σ i with | some j => c'.len j | none => c.len i,
    c.n + (c'.n - π.length), c'.O, c'.b0, fun i => by split; exact c'.one _; exact c.one _, fun i A n m h => by
      split at h
      · exact c'.at0 _ A n m h
      · exact c.at0 _ A n m h⟩
theorem merge_some {c c' : Cx} {π : List Nat} {i j : Nat} (h : (if i < c.n then idx π i else some (π.length + (i - c.n))) = some j) : (c.merge c' π).val i = c'.val j ∧ (c.merge c' π).len i = c'.len j ∧ (c.merge c' π).key i = c'.key j ∧ (c.merge c' π).loc i = c'.loc j := by
  unfold Cx.merge
  simp only [h]
  exact ⟨trivial, trivial, trivial, trivial⟩
theorem merge_none {c c' : Cx} {π : List Nat} {i : Nat} (h : (if i < c.n then idx π i else some (π.length + (i - c.n))) = none) : (c.merge c' π).val i = c.val i ∧ (c.merge c' π).len i = c.len i ∧ (c.merge c' π).key i = c.key i ∧ (c.merge c' π).loc i = c.loc i := by
  unfold Cx.merge
  simp only [h]
  exact ⟨trivial, trivial, trivial, trivial⟩
theorem ren_ok {c c' d : Cx} {f : Nat → Nat} (hw : d.w = c'.w) (hO : d.O = c'.O) (hb : d.b0 = c'.b0) (hf : ∀ j, j < c'.n → f j < d.n ∧ d.val (f j) = c'.val j ∧ d.len (f j) = c'.len j ∧ d.loc (f j) = c'.loc j) : ∀ (v : AV) {vs : List Value}, sat v c' vs → sat (renA f v) d vs
  | .u, _, h => h
  | .v _, _, h => h
  | .nil, _, h => h
  | .em, _, h => h
  | .cons a b, _, ⟨x, r, e, h1, h2⟩ => ⟨x, r, e, ren_ok (c := c) hw hO hb hf a h1, ren_ok (c := c) hw hO hb hf b h2⟩
  | .agg l, _, ⟨cs, e, h⟩ => ⟨cs, e, ren_ok (c := c) hw hO hb hf l h⟩
  | .tup l, _, ⟨cs, e, h⟩ => ⟨cs, e, ren_ok (c := c) hw hO hb hf l h⟩
  | .fn _ l, _, ⟨cs, e, h⟩ => ⟨cs, e, ren_ok (c := c) hw hO hb hf l h⟩
  | .gd _ x, _, ⟨y, e, h, h'⟩ => ⟨y, e, fun hb' => ren_ok (c := c) hw hO hb hf x (h hb'), h'⟩
  | .ptr i o, _, ⟨hi, b, hbb, e⟩ => ⟨(hf i hi).1, b, by rw [(hf i hi).2.2.2]; exact hbb, e⟩
  | .sc i o n m t, _, ⟨hi, b, hbb, e⟩ => ⟨(hf i hi).1, b, by rw [(hf i hi).2.2.2]; exact hbb, e⟩
  | .rl q t l, _, ⟨A, m, e, hm, h⟩ => ⟨A, m, e, hm, by rw [hw, hO, hb]; exact h⟩
  | .rc q t l, _, ⟨A, e, h⟩ => ⟨A, e, by rw [hw, hO, hb]; exact h⟩
  | .rp k g o, _, ⟨b, q, e, h1, h2, h3⟩ => ⟨b, q, e, by rw [hO]; exact h1, by rw [hw]; exact h2, fun j hj => by
      obtain ⟨x, hx, hs⟩ := h3 j hj
      exact ⟨x, by rw [hw]; exact hx, sat_step (c := c'.bare) (c' := d.bare) (g j) ⟨Nat.le_refl _, fun _ _ h => absurd h (Nat.not_lt_zero _), fun _ h => absurd h (Nat.not_lt_zero _), fun b h _ => by show ¬ d.O b; rw [hO]; exact h, by show c'.w.heap.size ≤ d.w.heap.size; rw [hw]; exact Nat.le_refl _, fun _ _ _ => by show d.w.heap[_]? = c'.w.heap[_]?; rw [hw], by show d.b0 ≤ c'.b0; rw [hb]; exact Nat.le_refl _⟩ hs⟩⟩
  | .ow i k n, _, ⟨hi, hn, e, A, m, hv, hm⟩ => ⟨(hf i hi).1, by rw [(hf i hi).2.2.1]; exact hn, by rw [(hf i hi).2.1]; exact e, A, m, by rw [(hf i hi).2.1]; exact hv, hm⟩
  | .ws i k lo n, _, ⟨hi, hn, A, m, A', hv, hm, hA, e⟩ => ⟨(hf i hi).1, by rw [(hf i hi).2.2.1]; exact hn, A, m, A', by rw [(hf i hi).2.1, (hf i hi).2.2.1]; exact hv, by rw [(hf i hi).2.2.1]; exact hm, hA, e⟩
  | .op i k x o, _, ⟨hi, hx, b, hbb, e⟩ => ⟨(hf i hi).1, by rw [(hf i hi).2.2.1]; exact hx, b, by rw [(hf i hi).2.1]; exact hbb, e⟩
  | .iw i x o k n hd, _, ⟨⟨hi, hx, b, hbb⟩, e⟩ => ⟨⟨(hf i hi).1, by rw [(hf i hi).2.2.1]; exact hx, b, by rw [(hf i hi).2.1]; exact hbb⟩, e⟩
  | .ip i x o k y z hd, _, ⟨⟨hi, hx, b, hbb⟩, e⟩ => ⟨⟨(hf i hi).1, by rw [(hf i hi).2.2.1]; exact hx, b, by rw [(hf i hi).2.1]; exact hbb⟩, e⟩
  | .mp i, _, ⟨hi, ⟨b, hbb⟩, e⟩ => ⟨(hf i hi).1, ⟨b, by rw [(hf i hi).2.1]; exact hbb⟩, by rw [(hf i hi).2.1]; exact e⟩
  | .mw i t x n hd, _, ⟨⟨hi, b, hbb⟩, e⟩ => ⟨⟨(hf i hi).1, b, by rw [(hf i hi).2.1]; exact hbb⟩, e⟩
  | .mq i t x k y z hd, _, ⟨⟨hi, b, hbb⟩, e⟩ => ⟨⟨(hf i hi).1, b, by rw [(hf i hi).2.1]; exact hbb⟩, e⟩
theorem renO_ok {c c' d : Cx} {f : Nat → Nat} (hw : d.w = c'.w) (hO : d.O = c'.O) (hb : d.b0 = c'.b0) (hf : ∀ j, j < c'.n → f j < d.n ∧ d.val (f j) = c'.val j ∧ d.len (f j) = c'.len j ∧ d.loc (f j) = c'.loc j) {j : Nat} (hj : j < c'.n) (hk : d.key (f j) = c'.key j) {o : AO} (h : osat o c' j) : osat (renO f o) d (f j) := by
  obtain ⟨_, hv, hl, hloc⟩ := hf j hj
  cases o with
  | cells l =>
    obtain ⟨b, cs, t, h1, h2, h3, h4⟩ := h
    exact ⟨b, cs, t, by rw [hloc]; exact h1, by rw [hk]; exact h2, by rw [hw]; exact h3, ren_ok (c := c) hw hO hb hf l h4⟩
  | row qq t e l =>
    obtain ⟨h0, h1, hq, xs, h2, h3, h4⟩ := h
    refine ⟨h0, by rw [hl]; exact h1, fun hqt g hg => by rw [hb]; exact hq hqt g (by rw [← hk]; exact hg), xs, h2, ?_, by rw [hw, hO, hb]; exact h4⟩
    rcases h3 with ⟨e1, A, e2, e3⟩ | ⟨g, cap, cur, e1, e2, e3⟩
    · exact .inl ⟨e1, A, by rw [hv]; exact e2, by rw [hk]; exact e3⟩
    · exact .inr ⟨g, cap, cur, by rw [hv]; exact e1, by rw [hk]; exact e2, by rw [hw]; exact e3⟩
  | mt qq H t m e l => exact mtAt_congr (c := c') (i := j) hw hO hb hv hl hk h
  | mpo ka va kt vt out it l =>
    have kp : Keeps c'.w c'.O (qb false c'.b0) d.w d.O (qb false d.b0) := ⟨fun _ h _ _ => by rw [hO]; exact h, by rw [hw]; exact Nat.le_refl _, fun _ _ _ _ => by rw [hw], fun _ _ _ h => by rw [hb]; exact h⟩
    have := mapAt_congr (c := c') (i := j) (f := f) hv hk kp (fun _ _ => by rw [hw]) (fun j r hj hl _ => ⟨(hf j hj).1, by rw [(hf j hj).2.2.2]; exact hl⟩) h
    cases it with
    | none => exact this
    | some z => obtain ⟨i', y, rr⟩ := z; exact this
  | itp jj => trivial
  | fz qq t l =>
    obtain ⟨h1, h2, ⟨A, m, e, hm, hL⟩, h4⟩ := h
    exact ⟨by rw [hk]; exact h1, by rw [hl]; exact h2, ⟨A, m, by rw [hv]; exact e, hm, by rw [hw, hO, hb]; exact hL⟩, by rw [hv]; exact h4⟩
  | dead => exact (by show ∀ b, ¬ d.key (f j) b; rw [hk]; exact h)
  | void => exact ⟨by rw [hk]; exact h.1, hloc.trans h.2.1, hv.trans h.2.2⟩
section
variable {P : Program} {E : Env} {W0 : World} {X : Bd} {N : Nat} {c : Cx} {fr : Fr} {hp : List AO} {nx : Nat} {a : Act} {o : Oper} {ρ : Operand → AV}
theorem Gam.called (h : Gam W0 X N c fr hp nx a) {π : List Nat} (hn : π.Nodup) (hlt : ∀ i ∈ π, i < c.n) {c' : Cx} {lent new : List AO} (hx : Ext (c.pull π) c') (hob : Obs c' (lent ++ new)) (hl : lent.length = π.length) :
    Gam W0 X N (c.merge c' π) fr (joinO (updAll hp π (mapO (renI π nx) lent)) (mapO (renI π nx) new)) (joinO (updAll hp π (mapO (renI π nx) lent)) (mapO (renI π nx) new)).length a ∧
    ∀ (v : AV) (vs : List Value), sat v c' vs → sat (renA (renI π nx) v) (c.merge c' π) vs := by
  have hnc := h.nc
  have hnx := nx_n h
  have hcn : c'.n = π.length + new.length := by rw [hob.nc]; simp [hl]
  have hcn2 : (c.merge c' π).n = c.n + new.length := by show c.n + (c'.n - π.length) = _; omega
  -- where the callee's j stands
  have hσ : ∀ j, j < c'.n → renI π nx j < (c.merge c' π).n ∧ (if renI π nx j < c.n then idx π (renI π nx j) else some (π.length + (renI π nx j - c.n))) = some j := by
    intro j hj
    by_cases hjm : j < π.length
    · have hp' : π[j]? = some (π[j]'hjm) := List.getElem?_eq_getElem hjm
      rw [renI_lt π nx j _ hp']
      have hi := hlt _ (List.getElem_mem hjm)
      exact ⟨by omega, by rw [if_pos hi]; exact idx_of π _ j hn hp'⟩
    · rw [renI_ge π nx j (by omega)]
      refine ⟨by omega, ?_⟩
      rw [if_neg (by omega)]
      congr 1; omega
  have hf : ∀ j, j < c'.n → renI π nx j < (c.merge c' π).n ∧ (c.merge c' π).val (renI π nx j) = c'.val j ∧ (c.merge c' π).len (renI π nx j) = c'.len j ∧ (c.merge c' π).loc (renI π nx j) = c'.loc j := fun j hj => by
    obtain ⟨h1, h2⟩ := hσ j hj
    have := merge_some (c' := c') h2
    exact ⟨h1, this.1, this.2.1, this.2.2.2⟩
  have hkey : ∀ j, j < c'.n → (c.merge c' π).key (renI π nx j) = c'.key j := fun j hj => (merge_some (c' := c') (hσ j hj).2).2.2.1
  -- what one's own i is
  have hcase : ∀ i, i < (c.merge c' π).n → (∃ j, j < c'.n ∧ renI π nx j = i) ∨ (i < c.n ∧ ¬ i ∈ π ∧ (if i < c.n then idx π i else some (π.length + (i - c.n))) = none) := by
    intro i hi
    by_cases hic : i < c.n
    · cases hx' : idx π i with
      | some j =>
        have hp' := idx_at π i j hx'
        exact .inl ⟨j, by have := (List.getElem?_eq_some_iff.1 hp').1; omega, renI_lt π nx j i hp'⟩
      | none => exact .inr ⟨hic, idx_none π i hx', by rw [if_pos hic]⟩
    · refine .inl ⟨π.length + (i - c.n), by omega, ?_⟩
      rw [renI_ge π nx _ (by omega)]; omega
  have hpk : ∀ j i, π[j]? = some i → (c.pull π).key j = c.key i := fun j i hj => (pull_val hj).2.2.1
  have hlentkey : ∀ b, (∃ i, i < (c.pull π).n ∧ (c.pull π).key i b) → ∃ i, i ∈ π ∧ c.key i b := by
    rintro b ⟨j, hj, hk⟩
    have hp' : π[j]? = some (π[j]'hj) := List.getElem?_eq_getElem hj
    rw [hpk j _ hp'] at hk
    exact ⟨_, List.getElem_mem hj, hk⟩
  have hnolent : ∀ i, i < c.n → ¬ i ∈ π → ∀ b, c.key i b → ∀ j, j < (c.pull π).n → ¬ (c.pull π).key j b := fun i hi hni b hk j hj e => by
    obtain ⟨k, hk1, hk2⟩ := hlentkey b ⟨j, hj, e⟩
    exact hni (h.ob.dj i k b hi (hlt k hk1) hk hk2 ▸ hk1)
  have st : Step c (c.merge c' π) := by
    refine ⟨by omega, fun i b hi hloc => ?_, fun i hi hne => ?_, fun b hO hb h' => hO (hx.O1 b hb h'), hx.sz, fun b hO hb => hx.keep b hb (fun j hj e => ?_), Nat.le_of_eq hx.b0⟩
    · rcases hcase i (by omega) with ⟨j, hj, e⟩ | ⟨_, _, hnone⟩
      · subst e
        rw [(hf j hj).2.2.2]
        by_cases hjm : j < π.length
        · have hp' : π[j]? = some (renI π nx j) := by rw [renI_lt π nx j _ (List.getElem?_eq_getElem hjm)]; exact List.getElem?_eq_getElem hjm
          exact hx.loc j b hjm (by rw [(pull_val hp').2.2.2]; exact hloc)
        · rw [renI_ge π nx j (by omega)] at hi; omega
      · rw [(merge_none (c' := c') hnone).2.2.2]; exact hloc
    · rcases hcase i (by omega) with ⟨j, hj, e⟩ | ⟨_, _, hnone⟩
      · subst e
        rw [(hf j hj).2.1, (hf j hj).2.2.1]
        by_cases hjm : j < π.length
        · have hp' : π[j]? = some (renI π nx j) := by rw [renI_lt π nx j _ (List.getElem?_eq_getElem hjm)]; exact List.getElem?_eq_getElem hjm
          have q := pull_val (c := c) hp'
          have := hx.val j hjm (by rw [q.1]; exact hne)
          rw [q.1, q.2.1] at this
          exact this
        · rw [renI_ge π nx j (by omega)] at hi; omega
      · exact ⟨(merge_none (c' := c') hnone).1, (merge_none (c' := c') hnone).2.1⟩
    · obtain ⟨k, hk1, hk2⟩ := hlentkey b ⟨j, hj, e⟩
      exact hO (h.ob.kb k b (hlt k hk1) hk2).1
  have hren : ∀ (v : AV) (vs : List Value), sat v c' vs → sat (renA (renI π nx) v) (c.merge c' π) vs := fun v vs => ren_ok (c := c) (c' := c') (d := c.merge c' π) rfl rfl rfl hf v
  refine ⟨?_, hren⟩
  obtain ⟨u1, u2, u3⟩ := updAll_get π (mapO (renI π nx) lent) hp hn (by rw [mapO_eq]; simp [hl])
  -- the objects
  have hobj : ∀ i o, (joinO (updAll hp π (mapO (renI π nx) lent)) (mapO (renI π nx) new))[i]? = some o → (∃ j, j < c'.n ∧ renI π nx j = i ∧ ∃ o', (lent ++ new)[j]? = some o' ∧ o = renO (renI π nx) o') ∨ (i < c.n ∧ ¬ i ∈ π ∧ hp[i]? = some o ∧ (if i < c.n then idx π i else some (π.length + (i - c.n))) = none) := by
    intro i o ho
    rw [joinO_eq] at ho
    by_cases hic : i < c.n
    · rw [List.getElem?_append_left (by omega)] at ho
      rcases hcase i (by omega) with ⟨j, hj, e⟩ | ⟨_, hni, hnone⟩
      · have hjm : j < π.length := Classical.byContradiction fun hge => by rw [renI_ge π nx j (by omega)] at e; omega
        have hp' : π[j]? = some i := by rw [← e, renI_lt π nx j _ (List.getElem?_eq_getElem hjm)]; exact List.getElem?_eq_getElem hjm
        have hlj : lent[j]? = some (lent[j]'(by omega)) := List.getElem?_eq_getElem (by omega)
        have hmj : (mapO (renI π nx) lent)[j]? = some (renO (renI π nx) (lent[j]'(by omega))) := by rw [mapO_eq, List.getElem?_map, hlj]; rfl
        have := u3 j i _ hp' hmj (by omega)
        rw [this] at ho
        injection ho with ho
        exact .inl ⟨j, hj, e, _, by rw [List.getElem?_append_left (by omega)]; exact hlj, ho.symm⟩
      · rw [u2 i hni] at ho
        exact .inr ⟨hic, hni, ho, hnone⟩
    · rw [List.getElem?_append_right (by omega), mapO_eq, List.getElem?_map, Option.map_eq_some_iff] at ho
      obtain ⟨o', ho', e⟩ := ho
      have hil := (List.getElem?_eq_some_iff.1 ho').1
      refine .inl ⟨π.length + (i - c.n), by omega, by rw [renI_ge π nx _ (by omega)]; omega, o', ?_, e.symm⟩
      rw [List.getElem?_append_right (by omega), ← ho']
      congr 1; omega
  have hkeyin : ∀ i b, i < (c.merge c' π).n → (c.merge c' π).key i b → b < c.w.heap.size → ∃ k, k < c.n ∧ c.key k b := by
    intro i b hi hk hb
    rcases hcase i hi with ⟨j, hj, e⟩ | ⟨hic, _, hnone⟩
    · subst e
      rw [hkey j hj] at hk
      obtain ⟨j0, hj0, hk0⟩ := hx.key j b hj hk hb
      obtain ⟨k, hk1, hk2⟩ := hlentkey b ⟨j0, hj0, hk0⟩
      exact ⟨k, hlt k hk1, hk2⟩
    · rw [(merge_none (c' := c') hnone).2.2.1] at hk
      exact ⟨i, hic, hk⟩
  refine h.turn (hb0 := hx.b0) st ⟨?_, fun i o ho => ?_, fun i k b hi hk h1 h2 => ?_, fun i b hi hk => ?_, hob.ol, ?_⟩ (fun i b hi hk hb => ?_) (fun b hy => ?_) (fun b hO hb => ?_) hx.os hx.tp hx.ou (fun b hb hX => ?_) hx.dr
  · rw [hcn2, joinO_eq, List.length_append, u1, mapO_eq, List.length_map]; omega
  · rcases hobj i o ho with ⟨j, hj, e, o', ho', rfl⟩ | ⟨hic, hni, ho', hnone⟩
    · subst e
      exact renO_ok (c := c) (c' := c') (d := c.merge c' π) rfl rfl rfl hf hj (hkey j hj) (hob.o j o' ho')
    · have q := merge_none (c' := c') hnone
      refine osat_keep st hic q.2.2.1 (fun e => q.2.2.2.trans e) ⟨q.1, q.2.1⟩ (fun b hkb => ?_) (h.o i o ho')
      exact hx.keep b (h.ob.kb i b hic hkb).2 (hnolent i hic hni b hkb)
  · rcases hcase i hi with ⟨j, hj, e⟩ | ⟨hic, hni, hnone⟩ <;> rcases hcase k hk with ⟨j', hj', e'⟩ | ⟨hkc, hnk, hnone'⟩
    · subst e e'
      rw [hkey j hj] at h1
      rw [hkey j' hj'] at h2
      rw [hob.dj j j' b hj hj' h1 h2]
    · subst e
      rw [hkey j hj] at h1
      rw [(merge_none (c' := c') hnone').2.2.1] at h2
      have hb := (h.ob.kb k b hkc h2).2
      obtain ⟨j0, hj0, hk0⟩ := hx.key j b hj h1 hb
      exact absurd hk0 (hnolent k hkc hnk b h2 j0 hj0)
    · subst e'
      rw [hkey j' hj'] at h2
      rw [(merge_none (c' := c') hnone).2.2.1] at h1
      have hb := (h.ob.kb i b hic h1).2
      obtain ⟨j0, hj0, hk0⟩ := hx.key j' b hj' h2 hb
      exact absurd hk0 (hnolent i hic hni b h1 j0 hj0)
    · rw [(merge_none (c' := c') hnone).2.2.1] at h1
      rw [(merge_none (c' := c') hnone').2.2.1] at h2
      exact h.ob.dj i k b hic hkc h1 h2
  · rcases hcase i hi with ⟨j, hj, e⟩ | ⟨hic, hni, hnone⟩
    · subst e
      rw [hkey j hj] at hk
      exact hob.kb j b hj hk
    · rw [(merge_none (c' := c') hnone).2.2.1] at hk
      have := h.ob.kb i b hic hk
      exact ⟨hx.O2 b this.1 (hnolent i hic hni b hk), Nat.lt_of_lt_of_le this.2 hx.sz⟩
  · show c'.b0 ≤ c'.w.heap.size
    exact hob.bz
  · obtain ⟨k, hk1, hk2⟩ := hkeyin i b hi hk (by have := h.sz; omega)
    exact h.kx k b hk1 hk2 hb
  · refine hx.O2 b (h.oo b hy) (fun j hj e => ?_)
    obtain ⟨k, hk1, hk2⟩ := hlentkey b ⟨j, hj, e⟩
    exact (h.xy b hy).2 (h.kx k b (hlt k hk1) hk2 (h.xy b hy).1)
  · exact h.oz b (hx.O1 b (by have := h.sz; show b < c.w.heap.size; omega) hO) hb
  · refine hx.keep b (by have := h.sz; show b < c.w.heap.size; omega) (fun j hj e => ?_)
    obtain ⟨k, hk1, hk2⟩ := hlentkey b ⟨j, hj, e⟩
    exact hX (h.kx k b (hlt k hk1) hk2 hb)
def Cx.seen (c : Cx) : Cx := { c with n := 0, O := fun b => c.O b ∧ ∀ i, i < c.n → ¬ c.key i b, b0 := c.w.heap.size }
theorem seen_keeps (c : Cx) (b : Nat) : Keeps c.w c.O b c.seen.w c.seen.O 0 := ⟨fun _ h _ _ h' => h h'.1, Nat.le_refl _, fun _ _ _ _ => rfl, fun _ _ _ _ => Nat.zero_le _⟩
theorem rl_seen {q : Bool} {t : Ty} {l : List (El t)} {vs : List Value} (h : sat (.rl q t l) c vs) : sat (.rl false t l) c.seen vs := by
  obtain ⟨A, m, e, hm, hL⟩ := h
  exact ⟨A, m, e, hm, memR_keeps (seen_keeps c _) hL⟩
theorem src_seen {v : Value} {q : Bool} {t : Ty} {l : List (El t)} (h : memL c.w c.seen.O 0 (tsz t) (memE c.w c.seen.O 0 t) (match v with | .slice A _ _ => A | _ => none) l) {A : Option Addr} {m : Nat} (hv : v = .slice A l.length m) (hm : l.length ≤ m) : sat (.rl false t l) c.seen [v] := by
  subst hv
  exact ⟨A, m, rfl, hm, h⟩
theorem row_seen (h : Obs c hp) {j : Nat} {q : Bool} {t : Ty} {e : TypeId} {l : List (El t)} (hj : getAO hp j = .row q t e l) : sat (.rl false t l) c.seen [c.val j] := by
  have hj' := getAO_at hj (by simp)
  have hjn : j < c.n := by rw [h.nc]; exact (List.getElem?_eq_some_iff.1 hj').1
  have hrow : rowAt c j q t e l := h.o j _ hj'
  have hrow' : rowAt c j false t e l := by
    obtain ⟨h0, h1, hq, xs, h2, h3, h4⟩ := hrow
    exact ⟨h0, h1, (fun h => by cases h), xs, h2, h3, fun j y hy => memE_q (qb_mono (by simp) (Nat.le_refl _)) (h4 j y hy)⟩
  -- the same cells, in a context where its block is not shut
  obtain ⟨h0, h1, hq, xs, h2, h3, h4⟩ := hrow'
  rcases h3 with ⟨e1, A, e2, e3⟩ | ⟨g, cap, cur, e1, e2, e3, e4, e5, e6, e7⟩
  · subst e1
    exact ⟨A, 0, by rw [e2]; rfl, Nat.zero_le _, fun i y hy => by simp at hy⟩
  · refine ⟨some ⟨g, 0, none⟩, cap, by rw [e1], e4, fun i y hy => ⟨⟨g, 0, none⟩, rfl, rfl, fun h' => h'.2 j hjn ((e2 g).2 rfl), (h.kb j g hjn ((e2 g).2 rfl)).2, Nat.zero_le _, (xs.drop (i * tsz t)).take (tsz t), ?_, ?_, memE_keeps (seen_keeps c _) t y _ (h4 i y hy)⟩⟩
    · have hi : i < l.length := (List.getElem?_eq_some_iff.1 hy).1
      have : (i + 1) * tsz t ≤ l.length * tsz t := Nat.mul_le_mul_right _ hi
      rw [Nat.add_mul] at this
      simp; omega
    · intro p v hp
      have hp' : xs[i * tsz t + p]? = some v := by
        rw [List.getElem?_take] at hp
        split at hp
        · simpa [List.getElem?_drop] using hp
        · cases hp
      rw [← e7, List.getElem?_take] at hp'
      split at hp'
      · show World.cell? c.w _ = _
        rw [Nat.zero_add, e3.cell]
        simpa using hp'
      · cases hp'
theorem rl_cut {q : Bool} {t : Ty} {l : List (El t)} {A A' : Option Addr} {n0 m m' lo n : Nat} (h : sat (.rl q t l) c [.slice A n0 m]) (hlo : lo + n ≤ l.length) (hm : n ≤ m') (hA : 0 < n → A' = A.map (·.add (lo * tsz t))) : sat (.rl q t ((l.drop lo).take n)) c [.slice A' n m'] := by
  obtain ⟨A0, m0, e, hm0, hL⟩ := h
  simp only [List.cons.injEq, Value.slice.injEq, and_true] at e
  obtain ⟨e1, e2, e3⟩ := e
  subst e1
  have hlen : ((l.drop lo).take n).length = n := by simp; omega
  refine ⟨A', m', by rw [hlen], by rw [hlen]; exact hm, fun p y hp => ?_⟩
  have hpn : p < n := by
    have := (List.getElem?_eq_some_iff.1 hp).1
    rw [hlen] at this; exact this
  rw [List.getElem?_take, if_pos hpn, List.getElem?_drop] at hp
  obtain ⟨ad, hAe, hsp, hO, hb, hb0, cs, hcl, hr, hE⟩ := hL _ y hp
  obtain ⟨b, p0, sp⟩ := ad
  simp only at hsp hO hb hr hb0
  subst hsp
  subst hAe
  refine ⟨⟨b, p0 + lo * tsz t, none⟩, by rw [hA (by omega)]; simp [Addr.add_mid], rfl, hO, hb, hb0, cs, hcl, ?_, hE⟩
  rw [show p0 + lo * tsz t + p * tsz t = p0 + (lo + p) * tsz t by rw [Nat.add_mul]; omega]
  exact hr
theorem wk_ok : ∀ (v : AV) {vs : List Value}, sat v c.bare vs → sat (wkA v) c.seen.bare vs
  | .u, _, h => h
  | .v _, _, h => h
  | .nil, _, h => h
  | .em, _, h => h
  | .cons a b, _, ⟨x, r, e, h1, h2⟩ => ⟨x, r, e, wk_ok a h1, wk_ok b h2⟩
  | .agg l, _, ⟨cs, e, h⟩ => ⟨cs, e, wk_ok l h⟩
  | .tup l, _, ⟨cs, e, h⟩ => ⟨cs, e, wk_ok l h⟩
  | .fn _ l, _, ⟨cs, e, h⟩ => ⟨cs, e, wk_ok l h⟩
  | .gd b x, _, ⟨y, e, h, h'⟩ => ⟨y, e, fun hb => wk_ok x (h hb), h'⟩
  | .ptr _ _, _, ⟨hi, _⟩ => absurd hi (Nat.not_lt_zero _)
  | .sc _ _ _ _ _, _, ⟨hi, _⟩ => absurd hi (Nat.not_lt_zero _)
  | .rl q t l, _, h => rl_seen (c := c) (q := q) (t := t) (l := l) h
  | .rc q t l, _, ⟨A, e, hL⟩ => ⟨A, e, memR_keeps (seen_keeps c _) hL⟩
  | .rp k e o, _, ⟨b, q, hv, hO, hb, hc⟩ => ⟨b, q, hv, fun h' => hO h'.1, hb, fun j hj => by
      obtain ⟨x, hx, hs⟩ := hc j hj
      exact ⟨x, hx, wk_ok (e j) hs⟩⟩
  | .ow _ _ _, _, ⟨hi, _⟩ => absurd hi (Nat.not_lt_zero _)
  | .ws _ _ _ _, _, ⟨hi, _⟩ => absurd hi (Nat.not_lt_zero _)
  | .op _ _ _ _, _, ⟨hi, _⟩ => absurd hi (Nat.not_lt_zero _)
  | .iw _ _ _ _ _ _, _, ⟨⟨hi, _⟩, _⟩ => absurd hi (Nat.not_lt_zero _)
  | .ip _ _ _ _ _ _ _, _, ⟨⟨hi, _⟩, _⟩ => absurd hi (Nat.not_lt_zero _)
  | .mp _, _, ⟨hi, _⟩ => absurd hi (Nat.not_lt_zero _)
  | .mw _ _ _ _ _, _, ⟨⟨hi, _⟩, _⟩ => absurd hi (Nat.not_lt_zero _)
  | .mq _ _ _ _ _ _ _, _, ⟨⟨hi, _⟩, _⟩ => absurd hi (Nat.not_lt_zero _)
theorem viewW_ok (h : Obs c hp) {Pf : Nat → Nat → AV} (hP : ∀ i o vs, shut (Pf i o) = true → sat (.ptr i o) c vs → sat (Pf i o) c.seen vs) : ∀ (v : AV) {vs : List Value}, shut (viewW Pf hp v) = true → sat v c vs → sat (viewW Pf hp v) c.seen vs
  | .u, _, hs, _ => by cases hs
  | .v _, _, _, h => h
  | .nil, _, _, h => h
  | .em, _, _, h => h
  | .cons a b, _, hs, ⟨x, r, e, h1, h2⟩ => by
    simp only [viewW, shut, Bool.and_eq_true] at hs
    exact ⟨x, r, e, viewW_ok h hP a hs.1 h1, viewW_ok h hP b hs.2 h2⟩
  | .agg l, _, hs, ⟨cs, e, h1⟩ => ⟨cs, e, viewW_ok h hP l hs h1⟩
  | .tup l, _, hs, ⟨cs, e, h1⟩ => ⟨cs, e, viewW_ok h hP l hs h1⟩
  | .fn _ l, _, hs, ⟨cs, e, h1⟩ => ⟨cs, e, viewW_ok h hP l hs h1⟩
  | .gd _ _, _, hs, _ => by cases hs
  | .ptr i o, _, hs, h1 => hP i o _ hs h1
  | .rl q t l, _, _, h1 => rl_seen h1
  | .rc q t l, _, _, ⟨A, e, hL⟩ => ⟨A, e, memR_keeps (seen_keeps c _) hL⟩
  | .rp k e o, _, _, ⟨b, q, hv, hO, hb, hc⟩ => ⟨b, q, hv, fun h' => hO h'.1, hb, fun j hj => by
      obtain ⟨x, hx, hs⟩ := hc j hj
      exact ⟨x, hx, wk_ok (e j) hs⟩⟩
  | .ow i k n, vs, hs, ⟨hi, hn, e, hv⟩ => by
    subst e
    simp only [viewW] at hs ⊢
    split
    · rename_i q t te l hg
      exact row_seen h hg
    · rename_i q t l hg
      have hfz : osat (.fz q t l) c i := h.o i _ (getAO_at hg (by simp))
      exact rl_seen hfz.2.2.1
    · rename_i q H t m te l hg
      have hmt : mtAt c i q H t m te l := h.o i _ (getAO_at hg (by simp))
      exact mt_rl (q' := false) hmt (fun h => by cases h) (fun b hb => (h.kb i b hi hb).2) rfl (Nat.zero_le _) (fun h => by cases h) (fun b hb h' => hb h'.1) (fun b hb h' => h'.2 i hi hb)
    · rename_i h1 h2 h3
      exfalso
      split at hs
      · rename_i q t te l hg; exact h1 _ _ _ _ hg
      · rename_i q t l hg; exact h2 _ _ _ hg
      · rename_i q H t m te l hg; exact h3 _ _ _ _ _ _ hg
      · cases hs
  | .ws i k lo n, vs, hs, ⟨hi, hn, A, m, A', hv, hm, hA, e⟩ => by
    subst e
    simp only [viewW] at hs ⊢
    split
    · rename_i q t te l hg
      simp only [hg] at hs
      cases hk : Nat.beq (tsz t) k with
      | false => rw [hk] at hs; cases hs
      | true =>
        have := Nat.eq_of_beq_eq_true hk
        subst this
        have hrow := row_seen h hg
        have hl : l.length = c.len i := (h.o i _ (getAO_at hg (by simp)) : rowAt c i q t te l).2.1
        rw [hv] at hrow
        exact rl_cut hrow (by omega) (by omega) hA
    · rename_i q t l hg
      simp only [hg] at hs
      cases hk : Nat.beq (tsz t) k with
      | false => rw [hk] at hs; cases hs
      | true =>
        have := Nat.eq_of_beq_eq_true hk
        subst this
        have hfz : osat (.fz q t l) c i := h.o i _ (getAO_at hg (by simp))
        have hl : l.length = c.len i := hfz.2.1
        have hrow := rl_seen hfz.2.2.1
        rw [hv] at hrow
        exact rl_cut hrow (by omega) (by omega) hA
    · rename_i h1 h2
      exfalso
      split at hs
      · rename_i q t te l hg; exact h1 _ _ _ _ hg
      · rename_i q t l hg; exact h2 _ _ _ hg
      · cases hs
  | .sc i o n m t, vs, hs, ⟨hi, b, hb, e⟩ => by
    subst e
    simp only [viewW] at hs ⊢
    split
    · rename_i cc hg
      simp only [hg] at hs
      split
      · rename_i p hp'
        simp only [hp'] at hs
        cases hz : (Nat.blt 0 (tsz t) && Nat.ble n m) with
        | false => rw [hz] at hs; cases hs
        | true =>
          simp only [hz, cond_true] at hs ⊢
          rw [decN_eq] at hs ⊢
          split
          · rename_i pr hpr
            obtain ⟨q, xs⟩ := pr
            obtain ⟨b', cs, ty, hl', hk, hh, hsc⟩ := h.o i _ (getAO_at hg (by simp))
            rw [hb] at hl'; injection hl' with hl'; subst hl'
            obtain ⟨hle, hsp⟩ := part_ok cc o _ hp' hsc
            obtain ⟨hx1, hx2, hx3⟩ := decO_ok hsp hpr
            show sat (.rl false t xs) c.seen _
            refine ⟨some ⟨b, o, none⟩, _, by rw [hx1], ?_, fun j y hj => ⟨_, rfl, rfl, fun h' => h'.2 i hi ((hk b).2 rfl), (h.kb i b hi ((hk b).2 rfl)).2, Nat.zero_le _, _, ?_, ?_, memE_keeps (seen_keeps c _) t y _ (hx3 j y hj)⟩⟩
            · simp only [Bool.and_eq_true] at hz
              rw [hx1]; exact Nat.le_of_ble_eq_true hz.2
            · have hjn : j < n := by rw [← hx1]; exact (List.getElem?_eq_some_iff.1 hj).1
              have : (j + 1) * tsz t ≤ n * tsz t := Nat.mul_le_mul_right _ hjn
              rw [Nat.add_mul] at this
              simp at hx2 hle ⊢; omega
            · intro p v hp
              have hp2 : ((cs.toList.drop o).take (n * tsz t))[j * tsz t + p]? = some v := by
                rw [List.getElem?_take] at hp
                split at hp
                · simpa [List.getElem?_drop] using hp
                · cases hp
              rw [List.getElem?_take] at hp2
              split at hp2
              · show World.cell? c.w _ = _
                simp [World.cell?, hh]
                rw [List.getElem?_drop] at hp2
                rw [Nat.add_assoc]
                simpa using hp2
              · cases hp2
          · rename_i hpr
            rw [hpr] at hs
            cases hs
      · rename_i hne
        exfalso
        split at hs
        · rename_i p hp'; first | exact hne p hp' | (rw [hne] at hp'; cases hp')
        · cases hs
    · rename_i hne
      exfalso
      split at hs
      · rename_i cc hg; exact hne cc hg
      · cases hs
  | .op _ _ _ _, _, hs, _ => by cases hs
  | .iw _ _ _ _ _ _, _, hs, _ => by cases hs
  | .ip _ _ _ _ _ _ _, _, hs, _ => by cases hs
  | .mp _, _, hs, _ => by cases hs
  | .mw _ _ _ _ _, _, hs, _ => by cases hs
  | .mq _ _ _ _ _ _ _, _, hs, _ => by cases hs
theorem lenA_ok : ∀ (l : AV) {cs : List Value}, (∃ n, lenIs l n = true) → sat l c cs → lenA l = cs.length
  | .nil, cs, _, h => by
    have : cs = [] := h
    subst this; rfl
  | .cons a b, cs, ⟨n, hn⟩, ⟨x, r, e, _, h2⟩ => by
    subst e
    cases n with
    | zero => cases hn
    | succ n => simp [lenA, lenA_ok b ⟨n, hn⟩ h2]
  | .u, _, ⟨n, h⟩, _ => by cases n <;> cases h
  | .v _, _, ⟨n, h⟩, _ => by cases n <;> cases h
  | .agg _, _, ⟨n, h⟩, _ => by cases n <;> cases h
  | .tup _, _, ⟨n, h⟩, _ => by cases n <;> cases h
  | .fn _ _, _, ⟨n, h⟩, _ => by cases n <;> cases h
  | .gd _ _, _, ⟨n, h⟩, _ => by cases n <;> cases h
  | .ptr _ _, _, ⟨n, h⟩, _ => by cases n <;> cases h
  | .sc _ _ _ _ _, _, ⟨n, h⟩, _ => by cases n <;> cases h
  | .rl _ _ _, _, ⟨n, h⟩, _ => by cases n <;> cases h
  | .rc _ _ _, _, ⟨n, h⟩, _ => by cases n <;> cases h
  | .em, _, ⟨n, h⟩, _ => by cases n <;> cases h
  | .rp _ _ _, _, ⟨n, h⟩, _ => by cases n <;> cases h
  | .ow _ _ _, _, ⟨n, h⟩, _ => by cases n <;> cases h
  | .ws _ _ _ _, _, ⟨n, h⟩, _ => by cases n <;> cases h
  | .op _ _ _ _, _, ⟨n, h⟩, _ => by cases n <;> cases h
  | .iw _ _ _ _ _ _, _, ⟨n, h⟩, _ => by cases n <;> cases h
  | .ip _ _ _ _ _ _ _, _, ⟨n, h⟩, _ => by cases n <;> cases h
  | .mp _, _, ⟨n, h⟩, _ => by cases n <;> cases h
  | .mw _ _ _ _ _, _, ⟨n, h⟩, _ => by cases n <;> cases h
  | .mq _ _ _ _ _ _ _, _, ⟨n, h⟩, _ => by cases n <;> cases h
theorem lenIs_viewW {Pf : Nat → Nat → AV} : ∀ (l : AV) (n : Nat), lenIs l n = true → lenIs (viewW Pf hp l) n = true
  | .nil, 0, _ => rfl
  | .cons a b, n + 1, h => lenIs_viewW b n h
theorem lenIs_view : ∀ (d : Nat) (l : AV) (n : Nat), lenIs l n = true → lenIs (view hp d l) n = true
  | 0, l, n, h => lenIs_viewW l n h
  | d + 1, l, n, h => lenIs_viewW l n h
theorem view_ok (h : Obs c hp) : ∀ (d : Nat) (v : AV) {vs : List Value}, shut (view hp d v) = true → sat v c vs → sat (view hp d v) c.seen vs
  | 0, v, vs, hs, hv => viewW_ok h (fun i o vs hs _ => by cases hs) v hs hv
  | d + 1, v, vs, hs, hv => by
    refine viewW_ok h (fun i o vs hs hptr => ?_) v hs hv
    obtain ⟨hi, b, hb, e⟩ := hptr
    subst e
    split
    · rename_i l hg
      simp only [hg] at hs
      cases hc : (shut (view hp d l) && lenIs l (lenA l)) with
      | false => rw [hc] at hs; cases hs
      | true =>
        simp only [cond_true]
        simp only [Bool.and_eq_true] at hc
        obtain ⟨b', cs, ty, hl', hk, hh, hsc⟩ := h.o i _ (getAO_at hg (by simp))
        rw [hb] at hl'; injection hl' with hl'; subst hl'
        have hin := view_ok h d l hc.1 hsc
        have hlen := lenA_ok l ⟨_, hc.2⟩ hsc
        refine ⟨b, 0, by simp, fun h' => h'.2 i hi ((hk b).2 rfl), (h.kb i b hi ((hk b).2 rfl)).2, fun j hj => ?_⟩
        have hjc : cs.toList[j]? = some (cs.toList[j]'(by omega)) := List.getElem?_eq_getElem (by omega)
        refine ⟨_, ?_, nth_len (c := c.seen.bare) _ j hin ⟨_, lenIs_view d l _ hc.2⟩ hjc⟩
        show World.cell? c.w _ = _
        simp [World.cell?, hh]
    · rename_i hne
      exfalso
      split at hs
      · rename_i l hg; exact hne l hg
      · cases hs
theorem neat_ok {c' d : Cx} (hw : d.w = c'.w) (hn : c'.n = 0) (hb : d.b0 ≤ c'.b0) (hO : ∀ b, c'.b0 ≤ b → ¬ d.O b) : ∀ (v : AV) {vs : List Value}, neat v = true → sat v c' vs → sat v d vs
  | .v _, _, _, h => h
  | .nil, _, _, h => h
  | .cons a b, _, hs, ⟨x, r, e, h1, h2⟩ => by
    simp only [neat, Bool.and_eq_true] at hs
    exact ⟨x, r, e, neat_ok hw hn hb hO a hs.1 h1, neat_ok hw hn hb hO b hs.2 h2⟩
  | .agg l, _, hs, ⟨cs, e, h1⟩ => ⟨cs, e, neat_ok hw hn hb hO l hs h1⟩
  | .tup l, _, hs, ⟨cs, e, h1⟩ => ⟨cs, e, neat_ok hw hn hb hO l hs h1⟩
  | .fn _ l, _, hs, ⟨cs, e, h1⟩ => ⟨cs, e, neat_ok hw hn hb hO l hs h1⟩
  | .rl q t l, _, hs, ⟨A, m, e, hm, hL⟩ => by
    have hq : q = true := hs
    subst hq
    exact ⟨A, m, e, hm, memR_keeps ⟨fun k _ _ h' => hO k h', by rw [hw]; exact Nat.le_refl _, fun _ _ _ _ => by rw [hw], fun k _ _ h' => Nat.le_trans hb h'⟩ hL⟩
  | .u, _, hs, _ => by cases hs
  | .em, _, hs, _ => by cases hs
  | .gd _ _, _, hs, _ => by cases hs
  | .ptr _ _, _, hs, _ => by cases hs
  | .sc _ _ _ _ _, _, hs, _ => by cases hs
  | .rc _ _ _, _, hs, _ => by cases hs
  | .rp _ _ _, _, hs, _ => by cases hs
  | .ow _ _ _, _, hs, _ => by cases hs
  | .ws _ _ _ _, _, hs, _ => by cases hs
  | .op _ _ _ _, _, hs, _ => by cases hs
  | .iw _ _ _ _ _ _, _, hs, _ => by cases hs
  | .ip _ _ _ _ _ _ _, _, hs, _ => by cases hs
  | .mp _, _, hs, _ => by cases hs
  | .mw _ _ _ _ _, _, hs, _ => by cases hs
  | .mq _ _ _ _ _ _ _, _, hs, _ => by cases hs
def Cx.wide (c' : Cx) (O : Nat → Prop) (b0 : Nat) : Cx := { c' with O := fun b => c'.O b ∨ O b, b0 := b0 }
theorem wide_keeps {c' : Cx} {O : Nat → Prop} {b0 : Nat} (hb : b0 ≤ c'.b0) (hO : ∀ b, c'.b0 ≤ b → ¬ O b) : Keeps c'.w c'.O (qb true c'.b0) (c'.wide O b0).w (c'.wide O b0).O (qb true (c'.wide O b0).b0) :=
  ⟨fun k h1 _ h2 h3 => h3.elim h1 (hO k h2), Nat.le_refl _, fun _ _ _ _ => rfl, fun k _ _ h2 => Nat.le_trans hb h2⟩
theorem neatN_ok {c' : Cx} {O : Nat → Prop} {b0 : Nat} (hb : b0 ≤ c'.b0) (hO : ∀ b, c'.b0 ≤ b → ¬ O b) : ∀ (v : AV) {vs : List Value}, neatN v = true → sat v c' vs → sat v (c'.wide O b0) vs
  | .u, _, _, h => h
  | .v _, _, _, h => h
  | .nil, _, _, h => h
  | .cons a b, _, hs, ⟨x, r, e, h1, h2⟩ => by
    simp only [neatN, Bool.and_eq_true] at hs
    exact ⟨x, r, e, neatN_ok hb hO a hs.1 h1, neatN_ok hb hO b hs.2 h2⟩
  | .agg l, _, hs, ⟨cs, e, h1⟩ => ⟨cs, e, neatN_ok hb hO l hs h1⟩
  | .tup l, _, hs, ⟨cs, e, h1⟩ => ⟨cs, e, neatN_ok hb hO l hs h1⟩
  | .fn _ l, _, hs, ⟨cs, e, h1⟩ => ⟨cs, e, neatN_ok hb hO l hs h1⟩
  | .gd b x, _, hs, ⟨y, e, h1, h2⟩ => ⟨y, e, fun hb' => neatN_ok hb hO x hs (h1 hb'), h2⟩
  | .ptr _ _, _, _, h => h
  | .sc _ _ _ _ _, _, _, h => h
  | .rl q t l, _, hs, ⟨A, m, e, hm, hL⟩ => by
    have hq : q = true := hs
    subst hq
    exact ⟨A, m, e, hm, memR_keeps (wide_keeps hb hO) hL⟩
  | .rc q t l, _, hs, ⟨A, e, hL⟩ => by
    have hq : q = true := hs
    subst hq
    exact ⟨A, e, memR_keeps (wide_keeps hb hO) hL⟩
  | .em, _, _, h => h
  | .ow _ _ _, _, _, h => h
  | .ws _ _ _ _, _, _, h => h
  | .mp _, _, _, h => h
  | .rp _ _ _, _, hs, _ => by cases hs
  | .op _ _ _ _, _, hs, _ => by cases hs
  | .iw _ _ _ _ _ _, _, hs, _ => by cases hs
  | .ip _ _ _ _ _ _ _, _, hs, _ => by cases hs
  | .mw _ _ _ _ _, _, hs, _ => by cases hs
  | .mq _ _ _ _ _ _ _, _, hs, _ => by cases hs
theorem neatH_ok {c' : Cx} {O : Nat → Prop} {b0 : Nat} (hb : b0 ≤ c'.b0) (hO : ∀ b, c'.b0 ≤ b → ¬ O b) : ∀ (l : List AO) (i : Nat) (o : AO) (j : Nat), neatH l = true → l[i]? = some o → osat o c' j → osat o (c'.wide O b0) j
  | [], i, o, j, _, h, _ => by simp at h
  | x :: l, i + 1, o, j, hs, h, ho => neatH_ok hb hO l i o j (by cases x <;> simp [neatH] at hs ⊢ <;> simp_all) (by simpa using h) ho
  | x :: l, 0, o, j, hs, h, ho => by
    have h : x = o := by simpa using h
    subst h
    cases x with
    | cells l =>
      simp only [neatH, Bool.and_eq_true] at hs
      obtain ⟨b, cs, t, h1, h2, h3, h4⟩ := ho
      exact ⟨b, cs, t, h1, h2, h3, neatN_ok hb hO l hs.1 h4⟩
    | row q t e l =>
      simp only [neatH, Bool.and_eq_true] at hs
      obtain ⟨hq, _⟩ := hs
      subst hq
      obtain ⟨h0, h1, hq, xs, h2, h3, h4⟩ := ho
      exact ⟨h0, h1, fun hqt g hg => Nat.le_trans hb (hq hqt g hg), xs, h2, h3, fun j y hy => memE_keeps (wide_keeps hb hO) t y _ (h4 j y hy)⟩
    | fz q t l =>
      simp only [neatH, Bool.and_eq_true] at hs
      obtain ⟨h0, h1, h2, h3⟩ := ho
      exact ⟨h0, h1, neatN_ok hb hO (.rl q t l) hs.1 h2, h3⟩
    | dead => exact ho
    | mt _ _ _ _ _ _ => cases hs
    | mpo _ _ _ _ _ _ _ => cases hs
    | itp _ => cases hs
    | void => cases hs
theorem shut_bare : ∀ (v : AV) {vs : List Value}, shut v = true → sat v c vs → sat v c.bare vs
  | .v _, _, _, h => h
  | .nil, _, _, h => h
  | .em, _, _, h => h
  | .cons a b, _, hs, ⟨x, r, e, h1, h2⟩ => by
    simp only [shut, Bool.and_eq_true] at hs
    exact ⟨x, r, e, shut_bare a hs.1 h1, shut_bare b hs.2 h2⟩
  | .agg l, _, hs, ⟨cs, e, h1⟩ => ⟨cs, e, shut_bare l hs h1⟩
  | .tup l, _, hs, ⟨cs, e, h1⟩ => ⟨cs, e, shut_bare l hs h1⟩
  | .fn _ l, _, hs, ⟨cs, e, h1⟩ => ⟨cs, e, shut_bare l hs h1⟩
  | .rl q t l, _, _, h => h
  | .rc q t l, _, _, h => h
  | .rp k e o, _, _, h => h
  | .u, _, hs, _ => by cases hs
  | .gd _ _, _, hs, _ => by cases hs
  | .ptr _ _, _, hs, _ => by cases hs
  | .sc _ _ _ _ _, _, hs, _ => by cases hs
  | .ow _ _ _, _, hs, _ => by cases hs
  | .ws _ _ _ _, _, hs, _ => by cases hs
  | .op _ _ _ _, _, hs, _ => by cases hs
  | .iw _ _ _ _ _ _, _, hs, _ => by cases hs
  | .ip _ _ _ _ _ _ _, _, hs, _ => by cases hs
  | .mp _, _, hs, _ => by cases hs
  | .mw _ _ _ _ _, _, hs, _ => by cases hs
  | .mq _ _ _ _ _ _ _, _, hs, _ => by cases hs
theorem obs_none {c : Cx} (hn : c.n = 0) (ol : ∀ b, c.O b → b < c.w.heap.size) (bz : c.b0 ≤ c.w.heap.size) : Obs c [] :=
  ⟨hn, fun i o h => by simp at h, fun i j b hi => by omega, fun i b hi => by omega, ol, bz⟩
theorem ext_below {c c' : Cx} (h : Ext c c') (hn : c.n = 0) : BelowD c.w.heap.size c.w c'.w := ⟨⟨h.os, h.tp, h.ou, h.sz, fun b hb => h.keep b hb (fun i hi => by omega)⟩, h.dr⟩
theorem good_callR (hC : CallOk P E.call) (h : Gam W0 X N c fr hp nx a) {g : FuncId} {args : AV} {vs : Array Value} (hs : sat args c vs.toList) (hent : ∀ (hbody : ∃ fn : Func, P.funcs[g]? = some fn ∧ fn.body.isSome = true ∧ fn.name ≠ "runtime.NumGoroutine"), (execOp a.eval o).run P c.w = .ok (.enter g vs) c.w) :
    GoodR P W0 X N c fr hp nx a o (callR E hp nx g args) := by
  have viewCase : GoodR P W0 X N c fr hp nx a o (viewR E hp nx g (view hp 3 args)) := by
    unfold viewR
    cases hsh : shut (view hp 3 args) with
    | false => trivial
    | true =>
      simp only [cond_true]
      split
      · rename_i r hr
        split
        · rename_i hl hnw
          cases hne : neat r.res with
          | false => trivial
          | true =>
            simp only [cond_true]
            intro hpre
            have hsv := view_ok h.ob 3 args hsh hs
            obtain ⟨hbody, hcall⟩ := hC g _ [] r hr hpre c.seen vs hsv (obs_none rfl (fun b hb => h.ol b hb.1) (Nat.le_refl _))
            refine ⟨g, vs, hent hbody, hcall.mono fun e w' he => ?_⟩
            obtain ⟨x, c', rfl, rfl, hx, hob, _, hres⟩ := he
            rw [hl, hnw] at hob
            have hb0 : c'.b0 = c.w.heap.size := hx.b0
            have hbel := ext_below hx rfl
            refine ⟨x, rfl, hbel, neat_ok (c' := c') (d := c.to c'.w) rfl (by simpa using hob.nc) (by show c.b0 ≤ c'.b0; rw [hb0]; exact h.ob.bz) (fun b hb hO => ?_) r.res hne hres⟩
            have := h.ol b hO
            omega
        · rename_i nw hl hnw
          cases hne : (neatN r.res && neatH r.new) with
          | false => trivial
          | true =>
            simp only [cond_true]
            simp only [Bool.and_eq_true] at hne
            intro hpre
            have hsv := view_ok h.ob 3 args hsh hs
            obtain ⟨hbody, hcall⟩ := hC g _ [] r hr hpre c.seen vs hsv (obs_none rfl (fun b hb => h.ol b hb.1) (Nat.le_refl _))
            refine ⟨g, vs, hent hbody, hcall.mono fun e w' he => ?_⟩
            obtain ⟨x, c', rfl, rfl, hx, hob, _, hres⟩ := he
            rw [hl] at hob
            have hb0 : c'.b0 = c.w.heap.size := hx.b0
            have hbl : c.b0 ≤ c'.b0 := by rw [hb0]; exact h.ob.bz
            have hOl : ∀ b, c'.b0 ≤ b → ¬ c.O b := fun b hb hO => by have := h.ol b hO; omega
            have hx1 : Ext (c.pull []) (c'.wide c.O c.b0) := ⟨hx.os, hx.tp, hx.ou, hx.sz, Nat.zero_le _, fun i b hi => absurd hi (Nat.not_lt_zero _), fun i hi => absurd hi (Nat.not_lt_zero _), rfl,
              fun b hb _ => hx.keep b hb (fun i hi => absurd hi (Nat.not_lt_zero _)), fun b hb hO => hO.elim (fun h1 => (hx.O1 b hb h1).1) id, fun b hO _ => .inr hO,
              fun i b hi hk hb => by obtain ⟨j, hj, _⟩ := hx.key i b hi hk hb; exact absurd hj (Nat.not_lt_zero _), hx.dr⟩
            have hob1 : Obs (c'.wide c.O c.b0) ([] ++ r.new) := ⟨hob.nc, fun i o ho => neatH_ok hbl hOl r.new i o i hne.2 (by simpa using ho) (hob.o i o ho), hob.dj, fun i b hi hk => ⟨.inl (hob.kb i b hi hk).1, (hob.kb i b hi hk).2⟩,
              fun b hO => hO.elim (hob.ol b) (fun h1 => Nat.lt_of_lt_of_le (h.ol b h1) hx.sz), Nat.le_trans hbl hob.bz⟩
            obtain ⟨hG, hren⟩ := h.called (π := []) (lent := []) (by simp) (fun i hi => by cases hi) hx1 hob1 rfl
            exact ⟨x, c.merge (c'.wide c.O c.b0) _, rfl, rfl, hG, hren _ _ (neatN_ok hbl hOl r.res hne.1 hres)⟩
        · trivial
      · trivial
  unfold callR
  cases hsh : shut args with
  | true =>
    simp only [cond_true]
    have hsb : sat args c.bare vs.toList := shut_bare args hsh hs
    split
    · rename_i r hr
      split
      · rename_i hl hnw
        intro hpre
        obtain ⟨hbody, hcall⟩ := hC g _ [] r hr hpre c.bare vs hsb (obs_none rfl h.ol h.ob.bz)
        refine ⟨g, vs, hent hbody, hcall.mono fun e w' he => ?_⟩
        obtain ⟨x, c', rfl, rfl, hx, hob, _, hres⟩ := he
        rw [hl, hnw] at hob
        have hn0 : c'.n = 0 := by simpa using hob.nc
        have hbel := ext_below hx rfl
        refine ⟨x, rfl, hbel, sat_step r.res (c := c') (c' := c.to c'.w) ⟨by omega, fun i b hi => by omega, fun i hi => by omega, fun b hO hb h' => hO (hx.O2 b h' (fun i hi => absurd hi (Nat.not_lt_zero _))), Nat.le_refl _, fun _ _ _ => rfl, by show c.b0 ≤ c'.b0; rw [hx.b0]; exact Nat.le_refl _⟩ hres⟩
      · rename_i nw hl hnw
        cases hfr : E.free g with
        | true => trivial
        | false =>
          simp only [cond_false]
          intro hpre
          have hsp : sat args (c.pull []) vs.toList := sat_step args (c := c.bare) (c' := c.pull []) ⟨Nat.le_refl _, fun i b hi => absurd hi (Nat.not_lt_zero _), fun i hi => absurd hi (Nat.not_lt_zero _), fun _ h _ => h, Nat.le_refl _, fun _ _ _ => rfl, Nat.le_refl _⟩ hsb
          obtain ⟨hbody, hcall⟩ := hC g _ [] r hr hpre (c.pull []) vs hsp (obs_none rfl h.ol h.ob.bz)
          refine ⟨g, vs, hent hbody, hcall.mono fun e w' he => ?_⟩
          obtain ⟨x, c', rfl, rfl, hx, hob, _, hres⟩ := he
          rw [hl] at hob
          obtain ⟨hG, hren⟩ := h.called (π := []) (lent := []) (by simp) (fun i hi => by cases hi) hx hob rfl
          exact ⟨x, c.merge c' _, rfl, rfl, hG, hren _ _ hres⟩
      · trivial
    · trivial
  | false =>
    simp only [cond_false]
    cases hfr : (E.free g || !live hp (reach hp 40 (refs args) [])) with
    | true => trivial
    | false =>
      simp only [cond_false]
      split
      · rename_i a' ls ha hls
        split
        · rename_i r hr
          cases hlen : Nat.beq (lenO r.lent) (lenO ls) with
          | false => trivial
          | true =>
            simp only [cond_true]
            intro hpre
            have hn := reach_nodup hp 40 (refs args) [] (by simp)
            obtain ⟨hl1, hl2⟩ := lentOf_ok _ hls
            have hlive : ∀ j i, (reach hp 40 (refs args) [])[j]? = some i → hp[i]? = some (getAO hp i) := fun j i hj => by
              obtain ⟨o', _, ho⟩ := hl2 j i hj
              exact getAO_at rfl (fun e => by rw [e] at ho; cases ho)
            have hlt : ∀ i ∈ reach hp 40 (refs args) [], i < c.n := fun i hi => by
              obtain ⟨j, hj⟩ := List.getElem?_of_mem hi
              rw [h.nc]
              exact (List.getElem?_eq_some_iff.1 (hlive j i hj)).1
            have hobl : Obs (c.pull (reach hp 40 (refs args) [])) ls := by
              refine ⟨hl1.symm, fun j o ho => ?_, fun j k b hj hk h1 h2 => ?_, fun j b hj hk => ?_, h.ol, h.ob.bz⟩
              · have hjl : j < (reach hp 40 (refs args) []).length := by rw [← hl1]; exact (List.getElem?_eq_some_iff.1 ho).1
                have hp' := List.getElem?_eq_getElem hjl
                obtain ⟨o', ho', habs⟩ := hl2 j _ hp'
                rw [ho] at ho'; injection ho' with ho'; subst ho'
                exact absO_ok hp' habs (h.o _ _ (hlive j _ hp'))
              · have hpj := List.getElem?_eq_getElem hj
                have hpk := List.getElem?_eq_getElem hk
                rw [(pull_val (c := c) hpj).2.2.1] at h1
                rw [(pull_val (c := c) hpk).2.2.1] at h2
                have := h.ob.dj _ _ b (hlt _ (List.getElem_mem hj)) (hlt _ (List.getElem_mem hk)) h1 h2
                have q1 := idx_of _ _ _ hn hpj
                have q2 := idx_of _ _ _ hn hpk
                rw [this, q2] at q1
                injection q1 with q1; exact q1.symm
              · have hpj := List.getElem?_eq_getElem hj
                rw [(pull_val (c := c) hpj).2.2.1] at hk
                exact h.ob.kb _ b (hlt _ (List.getElem_mem hj)) hk
            obtain ⟨hbody, hcall⟩ := hC g _ ls r hr hpre (c.pull (reach hp 40 (refs args) [])) vs (abs_ok args ha hs) hobl
            refine ⟨g, vs, hent hbody, hcall.mono fun e w' he => ?_⟩
            obtain ⟨x, c', rfl, rfl, hx, hob, hll, hres⟩ := he
            obtain ⟨hG, hren⟩ := h.called hn hlt hx hob (by rw [hll, hl1])
            exact ⟨x, c.merge c' _, rfl, rfl, hG, hren _ _ hres⟩
        · exact viewCase
      · exact viewCase
theorem good_callDR (hC : CallOkD P E.calld) (h : Gam W0 X N c fr hp nx a) {g : FuncId} {args : AV} {vs : Array Value} (hs : sat args c vs.toList) (hent : ∀ (hbody : ∃ fn : Func, P.funcs[g]? = some fn ∧ fn.body.isSome = true ∧ fn.name ≠ "runtime.NumGoroutine"), (execOp a.eval o).run P c.w = .ok (.enter g vs) c.w) :
    GoodR P W0 X N c fr hp nx a o (callDR E hp nx g args) := by
  unfold callDR
  cases hfr : (!live hp (reach hp 40 (refs args) [])) with
  | true => trivial
  | false =>
    simp only [cond_false]
    split
    · rename_i a' ls ha hls
      split
      · rename_i r hr
        intro hpre
        have hn := reach_nodup hp 40 (refs args) [] (by simp)
        obtain ⟨hl1, hl2⟩ := lentOf_ok _ hls
        have hlive : ∀ j i, (reach hp 40 (refs args) [])[j]? = some i → hp[i]? = some (getAO hp i) := fun j i hj => by
          obtain ⟨o', _, ho⟩ := hl2 j i hj
          exact getAO_at rfl (fun e => by rw [e] at ho; cases ho)
        have hlt : ∀ i ∈ reach hp 40 (refs args) [], i < c.n := fun i hi => by
          obtain ⟨j, hj⟩ := List.getElem?_of_mem hi
          rw [h.nc]
          exact (List.getElem?_eq_some_iff.1 (hlive j i hj)).1
        have hobl : Obs (c.pull (reach hp 40 (refs args) [])) ls := by
          refine ⟨hl1.symm, fun j o ho => ?_, fun j k b hj hk h1 h2 => ?_, fun j b hj hk => ?_, h.ol, h.ob.bz⟩
          · have hjl : j < (reach hp 40 (refs args) []).length := by rw [← hl1]; exact (List.getElem?_eq_some_iff.1 ho).1
            have hp' := List.getElem?_eq_getElem hjl
            obtain ⟨o', ho', habs⟩ := hl2 j _ hp'
            rw [ho] at ho'; injection ho' with ho'; subst ho'
            exact absO_ok hp' habs (h.o _ _ (hlive j _ hp'))
          · have hpj := List.getElem?_eq_getElem hj
            have hpk := List.getElem?_eq_getElem hk
            rw [(pull_val (c := c) hpj).2.2.1] at h1
            rw [(pull_val (c := c) hpk).2.2.1] at h2
            have := h.ob.dj _ _ b (hlt _ (List.getElem_mem hj)) (hlt _ (List.getElem_mem hk)) h1 h2
            have q1 := idx_of _ _ _ hn hpj
            have q2 := idx_of _ _ _ hn hpk
            rw [this, q2] at q1
            injection q1 with q1; exact q1.symm
          · have hpj := List.getElem?_eq_getElem hj
            rw [(pull_val (c := c) hpj).2.2.1] at hk
            exact h.ob.kb _ b (hlt _ (List.getElem_mem hj)) hk
        obtain ⟨hbody, hcall⟩ := hC g _ ls r hr hpre (c.pull (reach hp 40 (refs args) [])) vs (abs_ok args ha hs) hobl
        refine ⟨g, vs, hent hbody, hcall.mono fun e w' he => ?_⟩
        obtain ⟨d, x, c', hok, rfl, rfl, hx, hob, hll, hres⟩ := he
        obtain ⟨hG, hren⟩ := h.called hn hlt hx hob (by rw [hll, hl1])
        exact ⟨d, x, c.merge c' _, hok, rfl, rfl, hG, hren _ _ hres⟩
      · trivial
    · trivial
theorem good_callD (hC : CallOkD P E.calld) (h : Gam W0 X N c fr hp nx a) (cl : Call) (hop : o.op = .call cl) (f : Operand) (hf : cl.callee = .value f) (g : FuncId) (cap : AV) (hg : sat (.fn g cap) c [a.eval f])
    (hx : ∀ p ∈ cl.args.toList, sat (ρ p) c [a.eval p]) : GoodR P W0 X N c fr hp nx a o (callDR E hp nx g (appA (cl.args.toList.foldr (fun x l => .cons (ρ x) l) .nil) cap)) := by
  obtain ⟨cs, e, hcs⟩ := hg
  have e' : a.eval f = .func (.func g) #[] cs := by simpa using e
  refine good_callDR hC h (vs := cl.args.map a.eval ++ cs) (by simpa using sat_app _ ⟨_, list_len _⟩ (sat_list _ hx) hcs) ?_
  rintro ⟨fn, hfn, hbody, hname⟩
  unfold execOp; rw [hop]
  have hb' : ¬ fn.body = none := by intro h; simp [h] at hbody
  simp [resolve, hf, e', Deferred.ofValue, invoke, callFunc, hfn, hname, hb', Sem.run_bind, program, Sem.run]
theorem good_call (hC : CallOk P E.call) (h : Gam W0 X N c fr hp nx a) (cl : Call) (hop : o.op = .call cl) (f : Operand) (hf : cl.callee = .value f) (g : FuncId) (cap : AV) (hg : sat (.fn g cap) c [a.eval f])
    (hx : ∀ p ∈ cl.args.toList, sat (ρ p) c [a.eval p]) : GoodR P W0 X N c fr hp nx a o (callR E hp nx g (appA (cl.args.toList.foldr (fun x l => .cons (ρ x) l) .nil) cap)) := by
  obtain ⟨cs, e, hcs⟩ := hg
  have e' : a.eval f = .func (.func g) #[] cs := by simpa using e
  refine good_callR hC h (vs := cl.args.map a.eval ++ cs) (by simpa using sat_app _ ⟨_, list_len _⟩ (sat_list _ hx) hcs) ?_
  rintro ⟨fn, hfn, hbody, hname⟩
  unfold execOp; rw [hop]
  have hb' : ¬ fn.body = none := by intro h; simp [h] at hbody
  simp [resolve, hf, e', Deferred.ofValue, invoke, callFunc, hfn, hname, hb', Sem.run_bind, program, Sem.run]
theorem good_callB (hT : ∀ t i, tyOf E.ty t = some i → TIok P t i) (h : Gam W0 X N c fr hp nx a) {cl : Call} (hop : o.op = .call cl) {b : Builtin} (hb : cl.callee = .builtin b) {l : AV} (hl : sat l c (cl.args.map a.eval).toList) :
    GoodR P W0 X N c fr hp nx a o (callB E hp nx b cl.argTypes.toList l) := by
  unfold callB
  split
  · rename_i k x k' y
    obtain ⟨v, q, e, h1, h2⟩ := args_two hl
    have e1 : v = .int k x := by simpa [sat] using h1
    have e2 : q = .int k' y := by simpa [sat] using h2
    refine ⟨_, ?_, rfl⟩
    refine run_builtin hop hb ?_
    rw [e, e1, e2]
    simp [builtin, Sem.run_bind, Builtin.min_, Builtin.min2]
  · rename_i k x k' y
    obtain ⟨v, q, e, h1, h2⟩ := args_two hl
    have e1 : v = .int k x := by simpa [sat] using h1
    have e2 : q = .int k' y := by simpa [sat] using h2
    refine ⟨_, ?_, rfl⟩
    refine run_builtin hop hb ?_
    rw [e, e1, e2]
    simp [builtin, Sem.run_bind, Builtin.max_, Builtin.max2]
  · rename_i t ts x hts
    split
    · rename_i i hi
      obtain ⟨v, e, h1⟩ := args_one hl
      exact good_len hop hb hts (hT t i hi) e h1
    · trivial
  · rename_i t ts x hts
    split
    · rename_i i hi
      obtain ⟨v, e, h1⟩ := args_one hl
      exact good_cap hop hb hts (hT t i hi) e h1
    · trivial
  · rename_i t ts x y hts
    split
    · rename_i i hi
      split
      · rename_i ie hie
        cases hk : Nat.beq i.kd 3 with
        | false => trivial
        | true =>
          obtain ⟨v, q, e, h1, h2⟩ := args_two hl
          exact good_copy h hop hb hts (hT t i hi) (Nat.eq_of_beq_eq_true hk) (hT _ _ hie) e h1 h2
      · trivial
    · trivial
  · rename_i t ts x hts
    split
    · rename_i i hi
      split
      · rename_i ie hie
        split
        · rename_i z hze
          cases hk : Nat.beq i.kd 3 with
          | false => trivial
          | true =>
            obtain ⟨v, e, h1⟩ := args_one hl
            exact good_clear h hop hb hts (hT t i hi) (Nat.eq_of_beq_eq_true hk) (hT _ _ hie) hze e h1
        · trivial
      · trivial
    · trivial
  · rename_i t t' x y hts
    split
    · rename_i i hi
      split
      · rename_i ie hie
        split
        · rename_i ro z hro hze
          cases hk : (Nat.beq i.kd 3 && Nat.blt 0 ie.sz && Nat.ble ie.by_ 100000) with
          | false => trivial
          | true =>
            simp only [Bool.and_eq_true] at hk
            have hk3 := Nat.eq_of_beq_eq_true hk.1.1
            have hsz : 0 < ie.sz := by simpa [Nat.blt_eq] using hk.1.2
            have hby := Nat.le_of_ble_eq_true hk.2
            obtain ⟨v, q, e, h1, h2⟩ := args_two hl
            simp only [cond_true]
            cases htt : Nat.beq t t' with
            | true =>
              have htt := Nat.eq_of_beq_eq_true htt
              subst htt
              exact good_append h hop hb hts (hT t i hi) hk3 (hT _ _ hie) hro hsz hby hze e h1 h2
            | false =>
              simp only [cond_false]
              split
              · rename_i it kx n hit
                split
                · rename_i hik
                  have hq : q = .int kx n := by simpa [sat] using h2
                  subst hq
                  exact good_appZ h hop hb hts (hT t i hi) hk3 (hT _ _ hie) (hT _ _ hit) hik hro hsz hby hze e h1
                · trivial
              · trivial
        · trivial
      · trivial
    · trivial
  · trivial
end
end Go.Proofs.Ytdhpjpidcbplbaa.Eng

/- ENGINE 2, 5F: bytes and text. -/
namespace Go.Proofs.Ytdhpjpidcbplbaa.Eng
open Go Go.RowKit
section
variable {P : Program} {E : Env} {W0 : World} {X : Bd} {N : Nat} {c : Cx} {fr : Fr} {hp : List AO} {nx : Nat} {a : Act} {o : Oper} {ρ : Operand → AV}
theorem push_bytes : ∀ (ns : List Int) (s : ByteArray), ns.foldl (fun r n => r.push (UInt8.ofNat n.toNat)) s = ⟨s.data ++ (ns.map fun n => UInt8.ofNat n.toNat).toArray⟩
  | [], s => by simp
  | n :: r, s => by
    rw [List.foldl_cons, push_bytes r]
    simp [ByteArray.push]
theorem flat_u8 {c : Cx} {b : Nat} : ∀ {l : List (El tyU8)} {news : List Value}, flatC c b tyU8 l news → news = (l.map fun x => x.1).map (Value.int .u8) := by
  intro l news h
  have hlen : news.length = l.length := by simpa [tsz] using h.1
  refine List.ext_getElem? fun j => ?_
  by_cases hj : j < l.length
  · have hx := h.2 j l[j] (List.getElem?_eq_getElem hj)
    obtain ⟨vs, e, _⟩ := hx
    simp only [tsz, Nat.zero_add, Nat.mul_one] at e
    have : ((news.drop j).take 1)[0]? = some (Value.int .u8 l[j].1) := by rw [e]; rfl
    simp at this
    simp [this, hj]
  · rw [List.getElem?_eq_none (by omega), List.getElem?_eq_none (by simp; omega)]
theorem run_loadCells_flat {w : World} {ad : Addr} {n : Nat} {news : List Value} (hl : news.length = n) (hc : ∀ j u, news[j]? = some u → w.cell? (ad.add j) = some u) : (loadCells ad n).run P w = .ok news.toArray w := by
  have := run_firstCells_some (P := P) w 1 n ad n n news (by omega) hc
  simpa [Builtin.firstCells] using this
theorem good_txt (h : Gam W0 X N c fr hp nx a) (s t : TypeId) (x : Operand) (hop : o.op = .convert s t x) {is i ie : TI} (his : TIok P s is) (hi : TIok P t i) (hie : TIok P is.el ie) (hk : is.kd = 3) (hk' : i.kd = 5) (hik : ie.ik = some .u8) {v : AV} (hx : sat v c [a.eval x]) :
    GoodR P W0 X N c fr hp nx a o (txtR hp v) := by
  have key : GoodR P W0 X N c fr hp nx a o (srcK hp tyU8 v .no fun _ l _ => .ok (.v (.string (bytesOf l)))) := by
    refine srcK_ok (no := R.no) (PP := GoodR P W0 X N c fr hp nx a o) h hx tyU8 trivial fun q l ows hsrc => ?_
    obtain ⟨c1, w1, n1, v1, b1, k1, kk, g1, s1, ln1, o1, f1⟩ := h.freeze ows
    have hS := hsrc c1 ⟨s1, w1, f1⟩
    obtain ⟨news, hf, _, hshape⟩ := hS.src (P := P) (his.sl hk)
    have hn := flat_u8 hf
    have hlen : news.length = l.length := by simpa [tsz] using hf.1
    refine ⟨.string (bytesOf l), ?_, rfl⟩
    have hconv : (convert s t (a.eval x)).run P c.w = .ok (.string (bytesOf l)) c.w := by
      rw [← w1]
      have hrun : ∀ A m, a.eval x = .slice A l.length m → (convert s t (.slice A l.length m)).run P c1.w = (Conv.bytesToString (.slice A l.length m)).run P c1.w := fun A m _ =>
        run_convert_bytes_string c1.w s t is.el A l.length m (his.sl hk) (by have := hie.ik _ hik; exact this) (hi.tx hk')
      rcases hshape with ⟨hl, m, hv⟩ | ⟨ad, m, hv, hcell⟩
      · subst hl
        rw [hv]
        exact (hrun none m hv).trans rfl
      · rw [hv, hrun _ _ hv]
        have := run_bytesToString (P := P) c1.w ad l.length m (l.map fun x => x.1) (by rw [← hn]; exact run_loadCells_flat hlen hcell)
        rw [this, push_bytes]
        simp [bytesOf]
    unfold execOp; rw [hop]
    simp only [Sem.run_bind, hconv, Result.andThen_ok, Sem.run_pure]
  unfold txtR
  split
  · trivial
  · exact key
theorem good_bytes (h : Gam W0 X N c fr hp nx a) (s t : TypeId) (x : Operand) (hop : o.op = .convert s t x) {is i ie : TI} (his : TIok P s is) (hi : TIok P t i) (hie : TIok P i.el ie) (hk : is.kd = 5) (hk' : i.kd = 3) (hik : ie.ik = some .u8) {b : ByteArray} (hx : a.eval x = .string b) :
    GoodR P W0 X N c fr hp nx a o (.act 1 (b.size ≤ 1000000000) (.ow nx 1 b.size) (snoc hp (.row true tyU8 i.el (ofBytes b)))) := by
  intro hsz
  have hr := Lib.run_convert_string_bytes (P := P) c.w s t i.el b (his.tx hk) (hi.sl hk') (hie.ik _ hik)
  have hcap := grownCap_ge c.w b.size 0 i.el
  have hcm := grownCap_le_maxLen c.w b.size 0 i.el (by unfold maxLen; omega)
  have hbs : (Lib.bytesCells c.w i.el b).size = grownCap c.w b.size 0 i.el := by simp [Lib.bytesCells]; omega
  have hlb : (ofBytes b).length = b.size := by simp [ofBytes]
  have hnew : rowHeap (Lib.bytesWorld c.w i.el b) c.w.heap.size (Lib.bytesCells c.w i.el b) i.el := ⟨_, Lib.bytesWorld_at_new c.w i.el b, .inr (Nat.le_refl _)⟩
  have hos : (Lib.bytesWorld c.w i.el b).os = c.w.os ∧ (Lib.bytesWorld c.w i.el b).tape = c.w.tape ∧ (Lib.bytesWorld c.w i.el b).output = c.w.output := ⟨rfl, rfl, rfl⟩
  have hflat : ∀ (w' : World) (O : Nat → Prop) (bb : Nat) (j : Nat) (y : El tyU8), (ofBytes b)[j]? = some y → memE w' O bb tyU8 y ((((Lib.bytesCells c.w i.el b).toList.take ((ofBytes b).length * tsz tyU8)).drop (j * tsz tyU8)).take (tsz tyU8)) := fun w' O bb j y hj => by
    have hjb : j < b.size := by have := (List.getElem?_eq_some_iff.1 hj).1; omega
    refine ⟨[], ?_, rfl⟩
    have hy : y = (((b.data.toList[j]'(by simpa using hjb)).toNat : Int), ()) := by
      unfold ofBytes at hj
      rw [List.getElem?_map, List.getElem?_eq_getElem (by simpa using hjb)] at hj
      simpa using hj.symm
    subst hy
    refine List.ext_getElem? fun p => ?_
    simp only [tsz, Nat.zero_add, Nat.mul_one]
    rw [List.getElem?_take]
    cases p with
    | zero =>
      rw [if_pos (by omega), List.getElem?_drop, List.getElem?_take, if_pos (by omega)]
      have : j < b.data.size := hjb
      simp [Lib.bytesCells]
      rw [List.getElem?_append_left (by simpa using hjb)]
      simp [this]
      exact ⟨b.data[j], by simp [this], rfl⟩
    | succ p => rw [if_neg (by omega)]; rfl
  have key := h.add (w' := Lib.bytesWorld c.w i.el b) (ix := c.n) (n' := c.n + 1) (ln := b.size) (k := (· = c.w.heap.size)) (lo := none) (v := .slice (some ⟨c.w.heap.size, 0, none⟩) b.size (grownCap c.w b.size 0 i.el)) (hv := at0_slice _ _ _) (ob := .row true tyU8 i.el (ofBytes b)) (fun _ => False)
    (.inl ⟨rfl, rfl, rfl⟩) (fun b hb => hb.elim) (by rw [Lib.bytesWorld_size]; omega) (fun b' hb _ => Lib.bytesWorld_at_old _ _ _ _ hb) hos.1 hos.2.1 hos.2.2 (fun g hg => by have hg : g = c.w.heap.size := hg; subst hg; rw [Lib.bytesWorld_size]; omega)
  obtain ⟨hG, _⟩ := key ⟨by decide, hlb.trans (updF_at c.len c.n b.size).symm, fun _ g hg => by
      rw [add_key] at hg
      have hg : g = c.w.heap.size := hg
      subst hg; exact h.ob.bz, _, (by rw [List.length_take]; simp only [tsz]; simp [hbs, hlb]; omega), .inr ⟨c.w.heap.size, grownCap c.w b.size 0 i.el, Lib.bytesCells c.w i.el b, (by rw [hlb]; exact updF_at _ _ _), fun b => by rw [add_key], hnew, by rw [hlb]; exact hcap, hcm, by rw [hbs]; simp [tsz], rfl⟩, fun j y hj => hflat _ _ _ j y hj⟩
  rw [snoc_eq]
  refine ⟨.slice (some ⟨c.w.heap.size, 0, none⟩) b.size (grownCap c.w b.size 0 i.el), _, ?_, hG, ?_⟩
  · unfold execOp; rw [hop]; simp only [hx]
    simp only [Sem.run_bind, hr, Result.andThen_ok, Sem.run_pure]
    rfl
  · rw [nx_n h]
    exact ⟨Nat.lt_succ_self _, (updF_at c.len c.n b.size).symm, by congr 1; exact (updF_at _ _ _).symm, _, _, updF_at _ _ _, hcap⟩
theorem good_conv (hT : ∀ t i, tyOf E.ty t = some i → TIok P t i) (h : Gam W0 X N c fr hp nx a) (s t : TypeId) (x : Operand) (hop : o.op = .convert s t x) {is i : TI} (his : TIok P s is) (hi : TIok P t i) {v : AV} (hx : sat v c [a.eval x]) :
    GoodR P W0 X N c fr hp nx a o (convR E hp nx is i v) := by
  unfold convR
  cases h1 : Nat.beq is.kd 3 && Nat.beq i.kd 5 with
  | true =>
    simp only [Bool.and_eq_true] at h1
    simp only [cond_true]
    split
    · rename_i ie hie
      split
      · rename_i hik
        exact good_txt h s t x hop his hi (hT _ _ hie) (Nat.eq_of_beq_eq_true h1.1) (Nat.eq_of_beq_eq_true h1.2) hik hx
      · trivial
    · trivial
  | false =>
    simp only [cond_false]
    cases h2 : Nat.beq is.kd 5 && Nat.beq i.kd 3 with
    | true =>
      simp only [Bool.and_eq_true] at h2
      simp only [cond_true]
      split
      · rename_i ie b hie
        split
        · rename_i hik
          exact good_bytes h s t x hop his hi (hT _ _ hie) (Nat.eq_of_beq_eq_true h2.1) (Nat.eq_of_beq_eq_true h2.2) hik (by simpa [sat] using hx)
        · trivial
      · trivial
    | false => trivial
end
end Go.Proofs.Ytdhpjpidcbplbaa.Eng
