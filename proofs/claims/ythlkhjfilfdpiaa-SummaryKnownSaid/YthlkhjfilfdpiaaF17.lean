/- ENGINE 2, 17: slices.SortFunc at elements without slices, as a contract (out of the kit's own law on it). -/
import Derived.Test.YthlkhjfilfdpiaaF16
import Derived.Shelf.SlSortCmp.NoneTotal
namespace Go.Proofs.Ythlkhjfilfdpiaa.Eng
set_option linter.unusedVariables false
set_option linter.unusedSimpArgs false
open Go Go.RowKit Go.Sort Go.Shelf Go.Proofs

/-- The cells of an element without slices. -/
def valsE : (t : Ty) → El t → List Value
  | .nil, _ => []
  | .int k r, x => .int k x.1 :: valsE r x.2
  | .bool r, x => .bool x.1 :: valsE r x.2
  | .str r, x => .string x.1 :: valsE r x.2
  | .sl _ r, x => .slice none 0 0 :: valsE r x.2
theorem valsE_len : ∀ (t : Ty) (x : El t), (valsE t x).length = tsz t
  | .nil, _ => rfl
  | .int k r, x => congrArg (· + 1) (valsE_len r x.2)
  | .bool r, x => congrArg (· + 1) (valsE_len r x.2)
  | .str r, x => congrArg (· + 1) (valsE_len r x.2)
  | .sl _ r, x => congrArg (· + 1) (valsE_len r x.2)
theorem valsE_one : ∀ (t : Ty) (x : El t), ∀ v ∈ valsE t x, v.oneCell' = true
  | .nil, _, v, hv => by cases hv
  | .int k r, x, v, hv => by
    rcases List.mem_cons.1 hv with rfl | hv
    · rfl
    · exact valsE_one r x.2 v hv
  | .bool r, x, v, hv => by
    rcases List.mem_cons.1 hv with rfl | hv
    · rfl
    · exact valsE_one r x.2 v hv
  | .str r, x, v, hv => by
    rcases List.mem_cons.1 hv with rfl | hv
    · rfl
    · exact valsE_one r x.2 v hv
  | .sl _ r, x, v, hv => by
    rcases List.mem_cons.1 hv with rfl | hv
    · rfl
    · exact valsE_one r x.2 v hv
theorem memE_vals {w : World} {O : Nat → Prop} {b : Nat} : ∀ (t : Ty), flatTy t = true → ∀ (x : El t) (vs : List Value), memE w O b t x vs ↔ vs = valsE t x
  | .nil, _, _, _ => Iff.rfl
  | .int k r, h, x, vs => by
    constructor
    · rintro ⟨vs', rfl, h'⟩; rw [(memE_vals r h x.2 vs').1 h']; rfl
    · rintro rfl; exact ⟨_, rfl, (memE_vals r h x.2 _).2 rfl⟩
  | .bool r, h, x, vs => by
    constructor
    · rintro ⟨vs', rfl, h'⟩; rw [(memE_vals r h x.2 vs').1 h']; rfl
    · rintro rfl; exact ⟨_, rfl, (memE_vals r h x.2 _).2 rfl⟩
  | .str r, h, x, vs => by
    constructor
    · rintro ⟨vs', rfl, h'⟩; rw [(memE_vals r h x.2 vs').1 h']; rfl
    · rintro rfl; exact ⟨_, rfl, (memE_vals r h x.2 _).2 rfl⟩
  | .sl _ _, h, _, _ => by cases h

theorem con_arg {α : Type} {A : Sh α} {k : α → Sig} {l : AV} {hp : List AO} {r : CR} (h : (Sig.arg A k).con l hp = some r) : ∃ x l' a, l = .cons x l' ∧ A.get x = some a ∧ (k a).con l' hp = some r := by
  cases l with
  | cons x l' =>
    simp only [Sig.con] at h
    split at h
    · rename_i a ha; exact ⟨x, l', a, rfl, ha, h⟩
    · cases h
  | _ => simp [Sig.con] at h
theorem con_obj {α : Type} {A : ShO α} {k : α → Sig} {l : AV} {hp : List AO} {r : CR} (h : (Sig.obj A k).con l hp = some r) : ∃ o hp' a, hp = o :: hp' ∧ o = A.put a ∧ (k a).con l hp' = some r := by
  cases hp with
  | cons o hp' =>
    simp only [Sig.con] at h
    split at h
    · rename_i a ha; exact ⟨o, hp', a, rfl, A.ok _ _ ha, h⟩
    · cases h
  | nil => simp [Sig.con] at h
theorem con_done {q : CR} {l : AV} {hp : List AO} {r : CR} (h : (Sig.done q).con l hp = some r) : l = .nil ∧ hp = [] ∧ r = q := by
  cases l <;> cases hp <;> simp [Sig.con] at h
  exact ⟨rfl, rfl, h.symm⟩

/-! ### The sort's worlds -/
section
variable {t : Ty} [Inhabited (El t)] {w : World} {g n : Nat} {d : Array (El t)} {os : Array Obj}
theorem sortW_at {cur : Array Value} {e : TypeId} {mk : Nat × Nat} (h : w.heap[g]? = some (.cells cur e mk)) :
    (sortWorldK (valsE t) (tsz t) w g 0 n d os).heap[g]? = some (.cells (putCells id 0 (flatK (valsE t) (tsz t) d) cur) e mk) := by
  have hg : g < w.heap.size := (Array.getElem?_eq_some_iff.1 h).1
  simp only [sortWorldK, Go.Sort.grow, putRowK, putRow, mapBlock, Go.Sort.ahead]
  rw [Array.getElem?_append_left (by simpa using hg), Array.getElem?_modify, if_pos rfl, h]
  rfl
theorem sortW_other {b : Nat} (hb : b < w.heap.size) (hne : b ≠ g) : (sortWorldK (valsE t) (tsz t) w g 0 n d os).heap[b]? = w.heap[b]? := by
  simp only [sortWorldK, Go.Sort.grow, putRowK, putRow, mapBlock, Go.Sort.ahead]
  rw [Array.getElem?_append_left (by simpa using hb), Array.getElem?_modify, if_neg (fun e => hne e.symm)]
theorem sortW_size : w.heap.size ≤ (sortWorldK (valsE t) (tsz t) w g 0 n d os).heap.size := by
  simp only [sortWorldK, Go.Sort.grow, putRowK, putRow, mapBlock, Go.Sort.ahead]
  simp
end

theorem grown_of {W w' : World} (h : BelowD W.heap.size W w') : ∃ q os', w' = Go.Sort.grow (W.drewN q) os' := by
  refine ⟨w'.drawn - W.drawn, (w'.heap.toList.drop W.heap.size).toArray, ?_⟩
  have hh : w'.heap = W.heap ++ (w'.heap.toList.drop W.heap.size).toArray := by
    apply Array.ext_getElem?
    intro k
    by_cases hk : k < W.heap.size
    · rw [h.block k hk, Array.getElem?_append_left hk]
    · rw [Array.getElem?_append_right (by omega)]
      simp only [List.getElem?_toArray, List.getElem?_drop, Array.getElem?_toList]
      congr 1; omega
  have hd : w'.drawn = W.drawn + (w'.drawn - W.drawn) := by have := h.dr; omega
  have h1 := h.tape
  have h2 := h.os
  have h3 := h.output
  cases w'
  cases W
  simp only [Go.Sort.grow, World.drewN, World.mk.injEq]
  exact ⟨hh, h1, hd, h2, h3⟩

theorem dec_enc {α : Type} {no : α} {q : Bool} : ∀ (t : Ty), flatTy t = true → ∀ (x : El t) (K : Bool → El t → α), (∀ b b' y, K b y = K b' y) → decK t (encC q t x) no K = K true x
  | .nil, _, _, _, _ => rfl
  | .int k r, h, x, K, hK => by
    simp only [encC, decK, if_true]
    exact dec_enc r h x.2 _ fun b b' y => hK b b' _
  | .bool r, h, x, K, hK => by
    simp only [encC, decK]
    exact dec_enc r h x.2 _ fun b b' y => hK b b' _
  | .str r, h, x, K, hK => by
    simp only [encC, decK]
    exact dec_enc r h x.2 _ fun b b' y => hK b b' _
  | .sl _ _, h, _, _, _ => by cases h

/-- What a comparing function is to be: -/
def cmpSig (t : Ty) (cf : El t → El t → Int) : Sig := .arg (shT t) fun x => .arg (shT t) fun y => .done { pre := True, res := I (cf x y) }
def sortSig (t : Ty) (e : TypeId) (g : FuncId) (f : List (El t) → List (El t)) : Sig := .arg (shOw 0 (tsz t)) fun _ => .arg (shF g) fun _ => .obj (shRow t e) fun l => .done { pre := l.2.length < 4611686018427387904, res := .tup .nil, lent := [.row l.1 t e (f l.2)] }

theorem cmp_lays {P : Program} {t : Ty} (ht : flatTy t = true) {g : FuncId} {cf : El t → El t → Int} (hg : FnOk P g (cmpSig t cf).con) [Inhabited (El t)] (blk off size : Nat) (w : World) : CmpLays P g #[] (valsE t) (tsz t) cf blk off size w := by
  intro m os dk _ x y
  generalize sortWorldK (valsE t) (tsz t) w blk off m dk os = W
  have hget : ∀ z : El t, (shT t).get (.agg (encC false t z)) = some z := fun z => dec_enc t ht z _ fun _ _ _ => rfl
  have hk : (cmpSig t cf).con (.cons (.agg (encC false t x)) (.cons (.agg (encC false t y)) .nil)) [] = some { pre := True, res := I (cf x y) } := by
    simp only [cmpSig, Sig.con, hget]
  have hsat : ∀ z : El t, sat (.agg (encC false t z)) (cx0 W) [.agg (valsE t z).toArray] := fun z => ⟨_, rfl, encC_ok t z _ ((memE_vals t ht z _).2 (by simp))⟩
  refine ((hg _ [] _ hk trivial (cx0 W) #[.agg (valsE t x).toArray, .agg (valsE t y).toArray] ⟨_, _, rfl, hsat x, ⟨_, _, rfl, hsat y, rfl⟩⟩ (obs_none rfl (fun b hb => hb.elim) (Nat.zero_le _))).2).mono fun e w' he => ?_
  obtain ⟨v, c', rfl, rfl, hx, _, _, hres⟩ := he
  have : v = .int .i64 (cf x y) := by simpa [sat] using hres
  rw [this]
  exact ⟨rfl, grown_of (ext_below hx rfl)⟩

theorem holds_row {c : Cx} {g : Nat} {cur : Array Value} {e : TypeId} {t : Ty} [Inhabited (El t)] {l : List (El t)} (hr : rowHeap c.w g cur e) (hsz : l.length * tsz t ≤ cur.size) (hx : ∀ j y, l[j]? = some y → ((cur.toList.take (l.length * tsz t)).drop (j * tsz t)).take (tsz t) = valsE t y) (h0 : 0 < tsz t) :
    HoldsK (valsE t) (tsz t) c.w g 0 l.toArray := by
  intro j hj
  have hj' : j < l.length * tsz t := by simpa using hj
  have hq : j / tsz t < l.length := Nat.div_lt_of_lt_mul (by rw [Nat.mul_comm]; exact hj')
  have hmod : j % tsz t < tsz t := Nat.mod_lt _ h0
  have hdm : j / tsz t * tsz t + j % tsz t = j := Nat.div_add_mod' j _
  rw [Nat.zero_add]
  refine ⟨?_, hr.shut (by omega)⟩
  rw [hr.cell, get_flatK _ _ _ _ (by simpa using hj')]
  have h1 := congrArg (fun z : List Value => z[j % tsz t]?) (hx _ _ (List.getElem?_eq_getElem hq))
  simp only [List.getElem?_take, if_pos hmod, List.getElem?_drop, hdm, if_pos hj', Array.getElem?_toList] at h1
  rw [h1, List.getElem?_eq_getElem (by rw [valsE_len]; exact hmod)]
  simp only [id]
  congr 1
  rw [getElem!_pos l.toArray _ (by simpa using hq), getElem!_pos _ _ (by rw [valsE_len]; exact hmod)]
  rfl

/-- **slices.SortFunc, as a contract.** -/
theorem fnOk_sort {P : Program} {ρ : Ren} (L : SlLaysF0.n6 P ρ) {t : Ty} (ht : flatTy t = true) (e : TypeId) (aE : ∀ w, (isAgg (ρ.t 24)).run P w = .ok true w) (zE : ∀ w, (Go.sizeOf (ρ.t 24)).run P w = .ok (tsz t) w) (g : FuncId) (cf : El t → El t → Int) (hO : SWO (ltOf cf))
    (hT : ∀ x y, ltOf cf x y = false → ltOf cf y x = false → x = y) (eg : ∀ args w, (callFunc g args).run P w = .ok (.enter g args) w) (hg : FnOk P g (cmpSig t cf).con) {s : FuncId} (hs6 : s = ρ.f 6) (hfn : ∃ fn : Func, P.funcs[s]? = some fn ∧ fn.body.isSome = true ∧ fn.name ≠ "runtime.NumGoroutine") :
    FnOk P s (sortSig t e g fun l => l.mergeSort fun x y => !(ltOf cf) y x).con := by
  haveI : Inhabited (El t) := ⟨zeroE t⟩
  intro l hp r hk hpre c args hs hob
  obtain ⟨x, l1, n, rfl, hx, hk⟩ := con_arg hk
  obtain ⟨y, l2, _, rfl, hy, hk⟩ := con_arg hk
  obtain ⟨o, hp', ⟨q, m⟩, rfl, ho, hk⟩ := con_obj hk
  obtain ⟨rfl, rfl, rfl⟩ := con_done hk
  have hlen : m.length < 4611686018427387904 := hpre
  obtain ⟨v1, r1, e1, s1, hs⟩ := hs
  obtain ⟨v2, r2, e2, s2, hs⟩ := hs
  have hr2 : r2 = [] := hs
  subst e2 hr2
  obtain ⟨hin, hn, ev1, A, mm, hA, hmm⟩ := (shOw 0 (tsz t)).ok _ _ hx _ _ s1
  obtain ⟨cs, ev2, hcs⟩ := (shF g).ok _ _ hy _ _ s2
  have hcs : cs = #[] := by
    have : cs.toList = [] := hcs
    exact Array.toList_eq_nil_iff.1 this
  subst hcs
  have e1' : v1 = c.val 0 := by simpa using ev1
  have e2' : v2 = .func (.func g) #[] #[] := by simpa using ev2
  subst e1' e2'
  have hargs : args = #[c.val 0, .func (.func g) #[] #[]] := by rw [← Array.toList_inj, e1]
  subst hargs
  have ho : o = .row q t e m := ho
  subst ho
  have hc1 : c.n = 1 := by simpa using hob.nc
  obtain ⟨h0, hml, hq, xs, hxl, hcase, hmem⟩ := (hob.o 0 _ rfl : rowAt c 0 q t e m)
  refine ⟨hfn, ?_⟩
  subst hs6
  rcases hcase with ⟨hm, A', hv, hkey⟩ | ⟨b, cap, cur, hv, hkey, hrow, hcap, hcapm, hsz, htk⟩
  · subst hm
    rw [hv]
    refine (AnyF.slices_SortFunc_none L A' 0 _ c.w).mono fun ed w' he => ?_
    obtain ⟨rfl, rfl⟩ := he
    refine ⟨_, c, rfl, rfl, ⟨rfl, rfl, rfl, Nat.le_refl _, Nat.le_refl _, fun _ _ _ h => h, fun _ _ _ => ⟨rfl, rfl⟩, rfl, fun _ _ _ => rfl, fun _ _ h => h, fun _ h _ => h, fun i b hi hk _ => ⟨i, hi, hk⟩, Nat.le_refl _⟩, ?_, rfl, ⟨_, rfl, rfl⟩⟩
    simpa using hob
  · have hvals : ∀ j y, m[j]? = some y → (xs.drop (j * tsz t)).take (tsz t) = valsE t y := fun j y hj => (memE_vals t ht y _).1 (hmem j y hj)
    have hlc : m.length * tsz t ≤ cur.size := by rw [hsz]; exact Nat.mul_le_mul_right _ hcap
    have hH := holds_row (c := c) hrow hlc (fun j y hj => by rw [htk]; exact hvals j y hj) h0
    obtain ⟨hbO, hbs⟩ := hob.kb 0 b (by omega) hkey
    have hsort := AnyQ.slices_SortFunc_total L (tsz t) aE zE (valsE t) (valsE_len t) (valsE_one t) cf hO g #[] b 0 cap m.toArray c.w eg (cmp_lays ht hg b 0 _ c.w) hH hbs (by simpa using hlen) hT
    rw [hv]
    have e3 : m.toArray.size = m.length := by simp
    rw [e3] at hsort
    refine hsort.mono fun ed w' he => ?_
    obtain ⟨rfl, n', os, rfl⟩ := he
    obtain ⟨mk, hb1, hmk⟩ := hrow
    generalize hsl : m.mergeSort (fun x y => !(ltOf cf) y x) = sl
    have hll : sl.length = m.length := by rw [← hsl]; simp
    have hat := sortW_at (t := t) (n := n') (d := sl.toArray) (os := os) hb1
    have hoth : ∀ k, k < c.w.heap.size → k ≠ b → (sortWorldK (valsE t) (tsz t) c.w b 0 n' sl.toArray os).heap[k]? = c.w.heap[k]? := fun k hk hne => sortW_other hk hne
    have hszw : c.w.heap.size ≤ (sortWorldK (valsE t) (tsz t) c.w b 0 n' sl.toArray os).heap.size := sortW_size
    have hw1 : (sortWorldK (valsE t) (tsz t) c.w b 0 n' sl.toArray os).os = c.w.os := rfl
    have hw2 : (sortWorldK (valsE t) (tsz t) c.w b 0 n' sl.toArray os).tape = c.w.tape := rfl
    have hw3 : (sortWorldK (valsE t) (tsz t) c.w b 0 n' sl.toArray os).output = c.w.output := rfl
    have hw4 : c.w.drawn ≤ (sortWorldK (valsE t) (tsz t) c.w b 0 n' sl.toArray os).drawn := Nat.le_add_right _ _
    generalize sortWorldK (valsE t) (tsz t) c.w b 0 n' sl.toArray os = W at hat hoth hszw hw1 hw2 hw3 hw4
    have hkn : ∀ i b', i < c.n → c.key i = some b' → i = 0 ∧ b' = b := fun i b' hi hk => by
      have : i = 0 := by omega
      subst this
      rw [hkey] at hk; injection hk with hk
      exact ⟨rfl, hk.symm⟩
    refine ⟨_, c.to W, rfl, rfl, ⟨hw1, hw2, hw3, hszw, Nat.le_refl _, fun _ _ _ h => h, fun _ _ _ => ⟨rfl, rfl⟩, rfl, fun k hk hno => hoth k hk fun e => hno 0 (by omega) (by rw [hkey, e]), fun _ _ h => h, fun _ h _ => h, fun i b' hi hk _ => ⟨i, hi, hk⟩, hw4⟩, ?_, rfl, ⟨_, rfl, rfl⟩⟩
    refine ⟨hc1, fun i o ho => ?_, hob.dj, fun i b' hi hk => ⟨(hob.kb i b' hi hk).1, Nat.lt_of_lt_of_le (hob.kb i b' hi hk).2 hszw⟩, fun b' h => Nat.lt_of_lt_of_le (hob.ol b' h) hszw, Nat.le_trans hob.bz hszw⟩
    have hi0 : i = 0 := by have := (List.getElem?_eq_some_iff.1 ho).1; simp at this; omega
    subst hi0
    have ho : o = .row q t e sl := by rw [← hsl]; simpa using ho.symm
    subst ho
    have hcs : (putCells id 0 (flatK (valsE t) (tsz t) sl.toArray) cur).size = cur.size := by simp [putCells]
    refine ⟨h0, hll.trans hml, hq, (putCells id 0 (flatK (valsE t) (tsz t) sl.toArray) cur).toList.take (sl.length * tsz t), ?_, .inr ⟨b, cap, _, ?_, hkey, ⟨mk, hat, by rw [hcs]; exact hmk⟩, by omega, hcapm, hcs.trans hsz, rfl⟩, fun j y hj => (memE_vals t ht y _).2 ?_⟩
    · have h5 : (putCells id 0 (flatK (valsE t) (tsz t) sl.toArray) cur).toList.length = cur.size := (Array.length_toList).trans hcs
      rw [List.length_take, h5, hll, Nat.min_eq_left hlc]
    · rw [hll]; exact hv
    · have hjl : j < sl.length := (List.getElem?_eq_some_iff.1 hj).1
      have hjb : (j + 1) * tsz t ≤ sl.length * tsz t := Nat.mul_le_mul_right _ hjl
      rw [Nat.add_mul, Nat.one_mul] at hjb
      apply List.ext_getElem?
      intro p
      rw [List.getElem?_take]
      by_cases hp : p < tsz t
      · rw [if_pos hp, List.getElem?_drop, List.getElem?_take, if_pos (by omega), Array.getElem?_toList, putCells, Array.getElem?_mapIdx]
        have hcur : j * tsz t + p < cur.size := by rw [hll] at hjb; omega
        rw [Array.getElem?_eq_getElem hcur, Option.map_some, if_pos ⟨Nat.zero_le _, by rw [size_flatK]; simp; omega⟩, Nat.sub_zero, get_flatK _ _ _ _ (by simp; omega)]
        have hd : (j * tsz t + p) / tsz t = j := by rw [Nat.mul_comm, Nat.mul_add_div h0, Nat.div_eq_of_lt hp]; rfl
        have hmm : (j * tsz t + p) % tsz t = p := by rw [Nat.mul_comm, Nat.mul_add_mod, Nat.mod_eq_of_lt hp]
        rw [hd, hmm, getElem!_pos sl.toArray j (by simpa using hjl)]
        have hy : sl[j] = y := by
          have := List.getElem?_eq_getElem hjl
          rw [this] at hj; injection hj
        rw [show sl.toArray[j]'(by simpa using hjl) = y by simpa using hy]
        rw [List.getElem?_eq_getElem (by rw [valsE_len]; exact hp)]
        simp only [id]
        congr 1
        exact getElem!_pos _ _ (by rw [valsE_len]; exact hp)
      · rw [if_neg hp, List.getElem?_eq_none (by rw [valsE_len]; omega)]

/-! ### What loops over rows ask -/
theorem drop_get' {t : Ty} (l : List (El t)) {j : Nat} (h : j < l.length) : l.drop j = getE t l j :: l.drop (j + 1) := by
  rw [List.drop_eq_getElem_cons h]
  congr 1
  unfold getE
  rw [List.getD_eq_getElem?_getD, List.getElem?_eq_getElem h]
  rfl
theorem lt_t' {j n : Nat} (h : decide ((j : Int) < (n : Int)) = true) : j < n := Int.ofNat_lt.1 (of_decide_eq_true h)
theorem lt_f' {j n : Nat} (h : decide ((j : Int) < (n : Int)) = false) : n ≤ j := Nat.le_of_not_lt fun hh => of_decide_eq_false h (Int.ofNat_lt.2 hh)
theorem wrapS' {j : Nat} (h : j < 4611686018427387904) : IntKind.i64.wrap ((j : Int) + 1) = ((j + 1 : Nat) : Int) := by
  rw [IntKind.wrap_i64]; omega
end Go.Proofs.Ythlkhjfilfdpiaa.Eng
