/- Parts of the proof, joined: no conditions of their own. -/
import Derived.WalkKit
import Derived.ProofKit
import Derived.OpenShut
import Derived.ChangeOld
import Derived.Below
import Derived.Carry
import Derived.Shelf.SlSortCmp.NoneTotal
import Derived.Test.YtgmbmpojcnmcgaaProg
import Derived.Shelf.Lay
import Derived.Ground.SlsfProg
import Derived.PlainAid
import Derived.Laws.BitsLemmas
import Derived.Laws.Bits64
import Derived.Test.YtgmbmpojcnmcgaaG05
set_option linter.unusedVariables false
set_option linter.unusedSimpArgs false
/- ENGINE 2, 15: a law's contract as its row asks. -/
namespace Go.Proofs.Ytgmbmpojcnmcgaa.Eng
open Go Go.RowKit
def cx0 (w : World) : Cx := ⟨w, fun _ => noK, fun _ => none, fun _ => .bool false, fun _ => 0, 0, fun _ => False, 0, fun _ => rfl, fun _ _ _ _ h => by cases h⟩
theorem law_calls {P : Program} {f : FuncId} {k : Con} (h : FnOk P f k) {l : AV} {p : Prop} (hk : k l [] = some ⟨p, B true, [], []⟩) (hp : p) (w : World) (args : Array Value) (hs : sat l (cx0 w) args.toList) :
    Calls P f args w fun e w' => e = .returned (.bool true) ∧ Below w.heap.size w w' := by
  refine ((h l [] _ hk hp (cx0 w) args hs (obs_none rfl (fun b hb => hb.elim) (Nat.zero_le _))).2).mono fun e w' he => ?_
  obtain ⟨x, c', rfl, rfl, hx, _, _, hres⟩ := he
  have : x = .bool true := by simpa [sat] using hres
  rw [this]
  exact ⟨rfl, (ext_below hx rfl).toBelow⟩
theorem open_row {P : Program} {w : World} {r : Reach} {b : Nat} {t : TypeId} {v : Value} {n : Nat} {ts : List TypeId} {k : IntKind} (hr : (P.underlying t).map TypeDesc.isRow = some true) (hc : P.cellsOf t = n) (hct : P.cellTypes P.depth t = some ts) (hl : ts.length = n) (hu : ∀ u ∈ ts, P.underlying u = some (.int k)) (h : Value.okWide P w r b t v) :
    ∃ l : List Int, l.length = n ∧ v = .agg (l.map (Value.int k)).toArray ∧ ∀ x ∈ l, k.has x := by
  have hrow : ∃ cs, v = .agg cs ∧ cs.size = P.cellsOf t ∧ Row.okWide P w r b t cs := by
    unfold Value.okWide at h
    cases hq : P.underlying t with
    | none => simp [hq] at hr
    | some d => cases d <;> simp [hq, TypeDesc.isRow] at hr <;> simpa [hq] using h
  obtain ⟨cs, rfl, hsz, ts', hct', _, hall⟩ := hrow
  rw [hct] at hct'; injection hct' with hct'; subst hct'
  have key : ∀ m (l : List Value), l.length = m → (∀ v ∈ l, ∃ x, v = .int k x ∧ k.has x) → ∃ xs : List Int, xs.length = m ∧ l = xs.map (Value.int k) ∧ ∀ x ∈ xs, k.has x := by
    intro m l
    induction l generalizing m with
    | nil => intro hm _; exact ⟨[], by simpa using hm, rfl, fun x hx => by cases hx⟩
    | cons v l ih =>
      intro hm hv
      obtain ⟨x, rfl, hx⟩ := hv v (by simp)
      cases m with
      | zero => simp at hm
      | succ m =>
        obtain ⟨xs, h1, h2, h3⟩ := ih m (by simpa using hm) fun u hu => hv u (by simp [hu])
        refine ⟨x :: xs, by simp [h1], by rw [h2]; rfl, fun y hy => ?_⟩
        rcases List.mem_cons.1 hy with rfl | hy
        · exact hx
        · exact h3 y hy
  obtain ⟨xs, h1, h2, h3⟩ := key n cs.toList (by simp [hsz, hc]) fun v hv => by
    obtain ⟨i, hi⟩ := List.getElem?_of_mem hv
    obtain ⟨u, hu1, hu2⟩ := hall i v (by simpa using hi)
    have hk := hu u (List.mem_of_getElem? hu1)
    unfold Cell.okWide at hu2
    rw [hk] at hu2
    cases v <;> simp [Cell.ok, hk] at hu2
    rename_i k' x
    exact ⟨x, by rw [hu2.1], hu2.2⟩
  exact ⟨xs, h1, by rw [← h2], h3⟩
theorem has_i64 {x : Int} (h : IntKind.i64.has x) : -9223372036854775808 ≤ x ∧ x ≤ 9223372036854775807 := h
theorem has_u8 {x : Int} (h : IntKind.u8.has x) : 0 ≤ x ∧ x ≤ 255 := h
theorem open_k {P : Program} {w : World} {r : Reach} {b : Nat} {t : TypeId} {v : Value} {k : IntKind} (ht : P.underlying t = some (.int k)) (h : Value.okWide P w r b t v) : ∃ x, v = .int k x ∧ k.has x := by
  unfold Value.okWide at h
  rw [ht] at h
  unfold Cell.okWide at h
  rw [ht] at h
  cases v <;> simp [Cell.ok, ht] at h
  rename_i k' x
  exact ⟨x, by rw [h.1], h.2⟩
end Go.Proofs.Ytgmbmpojcnmcgaa.Eng

/- ENGINE 2, 16: what a law is handed: slices, opened. -/
namespace Go.Proofs.Ytgmbmpojcnmcgaa.Eng
open Go Go.RowKit
def matchA (go : Ty → Option Ty) : Nat → Ty → Option Ty
  | 0, τ => some τ
  | n + 1, τ => match go τ with
    | some r => matchA go n r
    | none => none
def matchFs (P : Program) (go : TypeId → Ty → Option Ty) : List Field → Nat → Ty → Option (Nat × Ty)
  | [], off, τ => some (off, τ)
  | f :: fs, off, τ => if f.offset = off then (match go f.type τ with
    | some r => matchFs P go fs (off + P.cellsOf f.type) r
    | none => none) else none
def isNil : Option Ty → Bool
  | some .nil => true
  | _ => false
def matchT (P : Program) : Nat → TypeId → Ty → Option Ty
  | 0, _, _ => none
  | d + 1, t, τ => match P.underlying t, τ with
    | some .bool, .bool r => if P.cellsOf t = 1 then some r else none
    | some (.int k), .int k' r => if k = k' ∧ P.cellsOf t = 1 then some r else none
    | some .string, .str r => if P.cellsOf t = 1 then some r else none
    | some (.slice e), .sl a r => if isNil (matchT P d e a) = true ∧ P.cellsOf e = tsz a ∧ 0 < tsz a ∧ P.cellsOf t = 1 then some r else none
    | some (.struct fs), τ => (match matchFs P (matchT P d) fs.toList 0 τ with
      | some (n, r) => if n = P.cellsOf t then some r else none
      | none => none)
    | some (.array n e), τ => if n * P.cellsOf e = P.cellsOf t then matchA (matchT P d e) n τ else none
    | _, _ => none
def okT : (t : Ty) → El t → Prop
  | .nil, _ => True
  | .int k r, x => k.has x.1 ∧ okT r x.2
  | .bool r, x => okT r x.2
  | .str r, x => x.1.size ≤ maxLen ∧ okT r x.2
  | .sl a r, x => x.1.length ≤ maxLen ∧ (∀ y ∈ x.1, okT a y) ∧ okT r x.2
theorem mapM_mem {α β : Type} (F : α → Option β) : ∀ (l : List α) {xs : List β}, l.mapM F = some xs → ∀ a ∈ l, ∃ b, F a = some b
  | [], _, _, a, ha => by cases ha
  | a :: r, xs, h, a', ha => by
    rw [List.mapM_cons] at h
    cases h1 : F a with
    | none => rw [h1] at h; cases h
    | some b =>
      rw [h1] at h
      cases h2 : r.mapM F with
      | none => rw [h2] at h; cases h
      | some bs =>
        rcases List.mem_cons.1 ha with rfl | ha
        · exact ⟨b, h1⟩
        · exact mapM_mem F r h2 a' ha
theorem list_of {α : Type} (Q : Nat → α → Prop) : ∀ (n : Nat), (∀ i, i < n → ∃ y, Q i y) → ∃ l : List α, l.length = n ∧ ∀ i y, l[i]? = some y → Q i y
  | 0, _ => ⟨[], rfl, fun i y h => by simp at h⟩
  | n + 1, h => by
    obtain ⟨l, h1, h2⟩ := list_of Q n fun i hi => h i (by omega)
    obtain ⟨y, hy⟩ := h n (by omega)
    refine ⟨l ++ [y], by simp [h1], fun i z hz => ?_⟩
    by_cases hi : i < n
    · rw [List.getElem?_append_left (by omega)] at hz; exact h2 i z hz
    · rw [List.getElem?_append_right (by omega)] at hz
      have : i - l.length = 0 := by
        have := (List.getElem?_eq_some_iff.1 hz).1
        simp at this; omega
      rw [this] at hz
      simp at hz
      have : i = n := by omega
      subst this hz; exact hy
abbrev noO : Nat → Prop := fun _ => False
def Opens (w : World) (τ r : Ty) (cs : List Value) : Prop :=
  ∃ f : El r → El τ, (∀ z vs, memE w noO 0 r z vs → memE w noO 0 τ (f z) (cs ++ vs)) ∧ ∀ z, okT r z → okT τ (f z)
theorem Opens.refl {w : World} {τ : Ty} : Opens w τ τ [] := ⟨id, fun z vs h => h, fun z h => h⟩
theorem Opens.trans {w : World} {τ r s : Ty} {cs ds : List Value} (h : Opens w τ r cs) (h' : Opens w r s ds) : Opens w τ s (cs ++ ds) := by
  obtain ⟨f, h1, h2⟩ := h
  obtain ⟨g, h3, h4⟩ := h'
  exact ⟨f ∘ g, fun z vs hz => by rw [List.append_assoc]; exact h1 _ _ (h3 z vs hz), fun z hz => h2 _ (h4 z hz)⟩
theorem Opens.all {w : World} {τ : Ty} {cs : List Value} (h : Opens w τ .nil cs) : ∃ x : El τ, memE w noO 0 τ x cs ∧ okT τ x := by
  obtain ⟨f, h1, h2⟩ := h
  exact ⟨f (), by simpa using h1 () [] rfl, h2 () trivial⟩
theorem take_add' {α : Type} (l : List α) (o a b : Nat) : (l.drop o).take (a + b) = (l.drop o).take a ++ (l.drop (o + a)).take b := by
  rw [List.take_add, List.drop_drop]
section
variable {H : Type} {enc : TypeId × Value → H} {P : Program} {w : World} {sp : Nat → Bool} {held : Bool}
theorem openFs {go : TypeId → Ty → Option Ty} {cs : List Value} : ∀ (fs : List Field) (off off' : Nat) (τ r : Ty), matchFs P go fs off τ = some (off', r) →
    (∀ f ∈ fs, ∀ τ r, go f.type τ = some r → ((cs.drop f.offset).take (P.cellsOf f.type)).length = P.cellsOf f.type ∧ Opens w τ r ((cs.drop f.offset).take (P.cellsOf f.type))) →
    off ≤ off' ∧ Opens w τ r ((cs.drop off).take (off' - off))
  | [], off, off', τ, r, h, _ => by
    injection h with h; injection h with h1 h2; subst h1 h2
    exact ⟨Nat.le_refl _, by rw [Nat.sub_self, List.take_zero]; exact Opens.refl⟩
  | f :: fs, off, off', τ, r, h, hf => by
    simp only [matchFs] at h
    split at h
    · rename_i ho
      split at h
      · rename_i r1 hg
        obtain ⟨h1, h2⟩ := hf f (by simp) τ r1 hg
        obtain ⟨h3, h4⟩ := openFs fs _ _ _ _ h fun g hg => hf g (by simp [hg])
        rw [ho] at h2
        refine ⟨by omega, ?_⟩
        have := h2.trans h4
        rw [show off' - off = P.cellsOf f.type + (off' - (off + P.cellsOf f.type)) by omega, take_add']
        exact this
      · cases h
    · cases h
theorem openA {go : Ty → Option Ty} {c : Nat} {cs : List Value} : ∀ (n i : Nat) (τ r : Ty), matchA go n τ = some r →
    (∀ j, i ≤ j → j < i + n → ∀ τ r, go τ = some r → Opens w τ r ((cs.drop (j * c)).take c)) → Opens w τ r ((cs.drop (i * c)).take (n * c))
  | 0, i, τ, r, h, _ => by injection h with h; subst h; rw [Nat.zero_mul, List.take_zero]; exact Opens.refl
  | n + 1, i, τ, r, h, hj => by
    simp only [matchA] at h
    split at h
    · rename_i r1 hg
      have h1 := hj i (Nat.le_refl _) (by omega) τ r1 hg
      have h2 := openA n (i + 1) r1 r h fun j h1 h2 => hj j (by omega) (by omega)
      have := h1.trans h2
      rw [Nat.add_mul, Nat.one_mul, Nat.add_comm (n * c) c, take_add']
      rw [Nat.add_mul, Nat.one_mul] at this
      exact this
    · cases h
theorem openSl {a : Addr} {len c : Nat} {τ : Ty} (hc : c = tsz τ) (h0 : 0 < tsz τ) (h : ∀ i, i < len → ∃ cs, w.cells? 0 (a.add (i * c)) c = some cs ∧ Opens w τ .nil cs) :
    ∃ l : List (El τ), l.length = len ∧ memL w noO 0 (tsz τ) (memE w noO 0 τ) (some a) l ∧ ∀ y ∈ l, okT τ y := by
  subst hc
  obtain ⟨l, hl, hq⟩ := list_of (fun i (y : El τ) => ∃ cs, w.cells? 0 (a.add (i * tsz τ)) (tsz τ) = some cs ∧ memE w noO 0 τ y cs ∧ okT τ y) len fun i hi => by
    obtain ⟨cs, h1, h2⟩ := h i hi
    obtain ⟨x, h3, h4⟩ := h2.all
    exact ⟨x, cs, h1, h3, h4⟩
  refine ⟨l, hl, fun i y hy => ?_, fun y hy => ?_⟩
  · have hi : i < len := by have := (List.getElem?_eq_some_iff.1 hy).1; omega
    obtain ⟨cs, h1, h2, _⟩ := hq i y hy
    obtain ⟨cs0, h01, _⟩ := h 0 (by omega)
    have hsp : a.spot = none := by
      obtain ⟨_, _, he⟩ := World.cells?_some h01
      have := he 0 h0
      rw [Nat.zero_mul] at this
      have e0 : (a.add 0).add 0 = a := rfl
      rw [e0] at this
      cases hs : a.spot with
      | none => rfl
      | some s =>
        exfalso
        unfold World.cell? at this
        have hl0 : cs0.length = tsz τ := (World.cells?_some h01).2.1
        rw [List.getElem?_eq_getElem (by omega)] at this
        split at this
        · simp [hs] at this
        · cases this
    have hb := World.cells?_block h1 h0
    obtain ⟨_, hl1, he⟩ := World.cells?_some h1
    obtain ⟨ab, ao, asp⟩ := a
    simp only at hsp
    subst hsp
    rw [Addr.add_mid] at hb he
    refine ⟨⟨ab, ao, none⟩, rfl, rfl, fun h => h, hb, Nat.zero_le _, cs, hl1, fun j v hv => ?_, h2⟩
    have hj := (List.getElem?_eq_some_iff.1 hv).1
    have := he j (by omega)
    rw [Addr.add_mid] at this
    rw [this]; exact hv
  · obtain ⟨i, hi⟩ := List.getElem?_of_mem hy
    obtain ⟨_, _, _, h3⟩ := hq i y hi
    exact h3
theorem trod_bool' {t : TypeId} {n : Nat} {cs : List Value} {x : DataW H × List MemPlace} (ht : P.underlying t = some .bool) (h : DataW.trod enc P w 0 sp held n t cs = some x) : ∃ b, cs = [.bool b] := by
  cases n with
  | zero => simp [DataW.trod] at h
  | succ n =>
    unfold DataW.trod at h
    rw [ht] at h
    split at h <;> simp_all
theorem trod_int' {t : TypeId} {k : IntKind} {n : Nat} {cs : List Value} {x : DataW H × List MemPlace} (ht : P.underlying t = some (.int k)) (h : DataW.trod enc P w 0 sp held n t cs = some x) : ∃ z, cs = [.int k z] ∧ k.has z := by
  cases n with
  | zero => simp [DataW.trod] at h
  | succ n =>
    unfold DataW.trod at h
    rw [ht] at h
    split at h <;> simp_all [Lit.wf, IntKind.has]
theorem trod_str' {t : TypeId} {n : Nat} {cs : List Value} {x : DataW H × List MemPlace} (ht : P.underlying t = some .string) (h : DataW.trod enc P w 0 sp held n t cs = some x) : ∃ s, cs = [.string s] ∧ s.size ≤ maxLen := by
  cases n with
  | zero => simp [DataW.trod] at h
  | succ n =>
    unfold DataW.trod at h
    rw [ht] at h
    split at h <;> simp_all
theorem openT : ∀ (d : Nat) (t : TypeId) (τ r : Ty), matchT P d t τ = some r → ∀ (n : Nat) (cs : List Value) x, DataW.trod enc P w 0 sp held n t cs = some x → cs.length = P.cellsOf t ∧ Opens w τ r cs
  | 0, _, _, _, h, _, _, _, _ => by cases h
  | d + 1, t, τ, r, h, n, cs, x, hx => by
    unfold matchT at h
    split at h
    · rename_i r' hu
      split at h
      · rename_i hc
        injection h with h; subst h
        obtain ⟨b, rfl⟩ := trod_bool' hu hx
        exact ⟨hc.symm, fun z => (b, z), fun z vs hz => ⟨vs, rfl, hz⟩, fun z hz => hz⟩
      · cases h
    · rename_i k k' r' hu
      split at h
      · rename_i hc
        injection h with h; subst h
        obtain ⟨b, rfl, hb⟩ := trod_int' hu hx
        obtain ⟨rfl, hc⟩ := hc
        exact ⟨hc.symm, fun z => (b, z), fun z vs hz => ⟨vs, rfl, hz⟩, fun z hz => ⟨hb, hz⟩⟩
      · cases h
    · rename_i r' hu
      split at h
      · rename_i hc
        injection h with h; subst h
        obtain ⟨b, rfl, hb⟩ := trod_str' hu hx
        exact ⟨hc.symm, fun z => (b, z), fun z vs hz => ⟨vs, rfl, hz⟩, fun z hz => ⟨hb, hz⟩⟩
      · cases h
    · rename_i e a r' hu
      split at h
      · rename_i hc
        obtain ⟨hm, hc1, hc2, hc3⟩ := hc
        injection h with h; subst h
        have hm' : matchT P d e a = some .nil := by
          unfold isNil at hm
          split at hm
          · assumption
          · cases hm
        rcases DataW.trod_slice hu hx with ⟨rfl, _⟩ | ⟨ad, len, cap, elems, rest, n', _, rfl, rfl, hb, hl, hmx, hlen, hel, _⟩
        · exact ⟨hc3.symm, fun z => ([], z), fun z vs hz => ⟨none, 0, vs, rfl, Nat.le_refl _, fun i y hy => by simp at hy, hz⟩, fun z hz => ⟨Nat.zero_le _, (fun y hy => (by cases hy)), hz⟩⟩
        · obtain ⟨l, h1, h2, h3⟩ := openSl (w := w) (a := ad) (len := len) (τ := a) hc1 hc2 fun i hi => by
            have := hel i hi
            rw [List.getElem?_eq_getElem (by omega)] at this
            cases hcs : w.cells? 0 (ad.add (i * P.cellsOf e)) (P.cellsOf e) with
            | none => rw [hcs] at this; cases this
            | some cs =>
              rw [hcs] at this
              exact ⟨cs, rfl, (openT d e a .nil hm' _ _ _ this).2⟩
          exact ⟨hc3.symm, fun z => (l, z), fun z vs hz => ⟨some ad, cap, vs, by rw [h1]; rfl, by rw [h1]; exact hl, h2, hz⟩, fun z hz => ⟨by rw [h1]; omega, h3, hz⟩⟩
      · cases h
    · rename_i τ fs hu
      split at h
      · rename_i m r' hf
        split at h
        · rename_i hm
          injection h with h; subst h hm
          obtain ⟨xs, n', _, rfl, hl, hlen, hfs⟩ := DataW.trod_struct hu hx
          have := openFs (w := w) (cs := cs) fs.toList 0 _ _ r' hf fun f hfm τ r hg => by
            obtain ⟨i, hi⟩ := List.getElem?_of_mem hfm
            have h1 := hfs i f (by simpa using hi)
            have hil : i < xs.length := by have := (List.getElem?_eq_some_iff.1 hi).1; simp at this; omega
            rw [List.getElem?_eq_getElem hil] at h1
            exact openT d f.type τ r hg _ _ _ h1
          rw [List.drop_zero, Nat.sub_zero, ← hl, List.take_length] at this
          exact ⟨hl, this.2⟩
        · cases h
      · cases h
    · rename_i τ m e hu
      split at h
      · rename_i hm
        obtain ⟨xs, n', _, rfl, hl, hlen, hfs⟩ := DataW.trod_array hu hx
        have := openA (w := w) (c := P.cellsOf e) (cs := cs) m 0 _ r h fun j _ hj τ r hg => by
          have h1 := hfs j (by omega)
          rw [List.getElem?_eq_getElem (by omega)] at h1
          exact (openT d e τ r hg _ _ _ h1).2
        rw [Nat.zero_mul, List.drop_zero, hm, ← hl, List.take_length] at this
        exact ⟨hl, this⟩
      · cases h
    · cases h
theorem open_rl {T e : TypeId} {τ : Ty} {v : Value} {d : DataW H} {ps : List MemPlace} {k : Nat} (hu : P.underlying T = some (.slice e)) (hm : isNil (matchT P k e τ) = true) (hc : P.cellsOf e = tsz τ) (h0 : 0 < tsz τ) (hw : ∃ a len cap, v = .slice a len cap) (h : DataW.Trod enc P w 0 sp held T v d ps) :
    ∃ l : List (El τ), sat ((shR τ).put l) (cx0 w) [v] ∧ l.length ≤ maxLen ∧ ∀ y ∈ l, okT τ y := by
  obtain ⟨fuel, hx⟩ := h
  have hm' : matchT P k e τ = some .nil := by
    unfold isNil at hm
    split at hm
    · assumption
    · cases hm
  obtain ⟨a', len', cap', rfl⟩ := hw
  rcases DataW.trod_slice hu hx with ⟨hcs, _⟩ | ⟨ad, len, cap, elems, rest, n', _, hcs, _, hb, hl, hmx, hlen, hel, _⟩
  · simp [Value.cells] at hcs
    obtain ⟨rfl, rfl, rfl⟩ := hcs
    exact ⟨[], ⟨none, 0, rfl, Nat.le_refl _, fun i y hy => by simp at hy⟩, Nat.zero_le _, fun y hy => by cases hy⟩
  · simp [Value.cells] at hcs
    obtain ⟨rfl, rfl, rfl⟩ := hcs
    obtain ⟨l, h1, h2, h3⟩ := openSl (w := w) (a := ad) (len := len') (τ := τ) hc h0 fun i hi => by
      have := hel i hi
      rw [List.getElem?_eq_getElem (by omega)] at this
      cases hcs : w.cells? 0 (ad.add (i * P.cellsOf e)) (P.cellsOf e) with
      | none => rw [hcs] at this; cases this
      | some cs =>
        rw [hcs] at this
        exact ⟨cs, rfl, (openT k e τ .nil hm' _ _ _ this).2⟩
    exact ⟨l, ⟨some ad, cap', by rw [h1], by rw [h1]; exact hl, h2⟩, by omega, h3⟩
theorem okWide_agg {r : Reach} {b : Nat} {t : TypeId} {v : Value} (hr : (P.underlying t).map TypeDesc.isRow = some true) (h : Value.okWide P w r b t v) : ∃ cs, v = .agg cs := by
  unfold Value.okWide at h
  cases hq : P.underlying t with
  | none => simp [hq] at hr
  | some d =>
    cases d <;> simp [hq, TypeDesc.isRow] at hr
    all_goals (rw [hq] at h; obtain ⟨cs, e, _⟩ := h; exact ⟨cs, e⟩)
theorem open_st {T : TypeId} {τ : Ty} {v : Value} {d : DataW H} {ps : List MemPlace} {k : Nat} (hm : isNil (matchT P k T τ) = true) (hw : ∃ cs, v = .agg cs) (h : DataW.Trod enc P w 0 sp held T v d ps) :
    ∃ x : El τ, sat ((shT τ).put x) (cx0 w) [v] ∧ okT τ x := by
  obtain ⟨fuel, hx⟩ := h
  have hm' : matchT P k T τ = some .nil := by
    unfold isNil at hm
    split at hm
    · assumption
    · cases hm
  obtain ⟨cs, rfl⟩ := hw
  obtain ⟨_, f, h1, h2⟩ := openT k T τ .nil hm' _ _ _ hx
  have h3 := h1 () [] rfl
  rw [List.append_nil] at h3
  exact ⟨f (), ⟨cs, rfl, encC_ok τ _ _ h3⟩, h2 () trivial⟩
end
end Go.Proofs.Ytgmbmpojcnmcgaa.Eng

/- ENGINE 2, 17: slices.SortFunc at elements without slices, as a contract (out of the kit's own law on it). -/
namespace Go.Proofs.Ytgmbmpojcnmcgaa.Eng
open Go Go.RowKit Go.Sort Go.Shelf Go.Proofs
def valsE : (t : Ty) → El t → List Value
  | .nil, _ => []
  | .int k r, x => .int k x.1 :: valsE r x.2
  | .bool r, x => .bool x.1 :: valsE r x.2
  | .str r, x => .string x.1 :: valsE r x.2
  | .sl _ r, x => .slice none 0 0 :: valsE r x.2
theorem valsE_len : ∀ (t : Ty) (x : El t), (valsE t x).length = tsz t
  | .nil, _ => rfl
  | .int k r, x => congrArg (· + 1) (valsE_len r x.2)
  | .bool r, x => congrArg (· + 1) (valsE_len r x.2)
  | .str r, x => congrArg (· + 1) (valsE_len r x.2)
  | .sl _ r, x => congrArg (· + 1) (valsE_len r x.2)
theorem valsE_one : ∀ (t : Ty) (x : El t), ∀ v ∈ valsE t x, v.oneCell' = true
  | .nil, _, v, hv => by cases hv
  | .int k r, x, v, hv => by
    rcases List.mem_cons.1 hv with rfl | hv
    · rfl
    · exact valsE_one r x.2 v hv
  | .bool r, x, v, hv => by
    rcases List.mem_cons.1 hv with rfl | hv
    · rfl
    · exact valsE_one r x.2 v hv
  | .str r, x, v, hv => by
    rcases List.mem_cons.1 hv with rfl | hv
    · rfl
    · exact valsE_one r x.2 v hv
  | .sl _ r, x, v, hv => by
    rcases List.mem_cons.1 hv with rfl | hv
    · rfl
    · exact valsE_one r x.2 v hv
theorem memE_vals {w : World} {O : Nat → Prop} {b : Nat} : ∀ (t : Ty), flatTy t = true → ∀ (x : El t) (vs : List Value), memE w O b t x vs ↔ vs = valsE t x
  | .nil, _, _, _ => Iff.rfl
  | .int k r, h, x, vs => by
    constructor
    · rintro ⟨vs', rfl, h'⟩; rw [(memE_vals r h x.2 vs').1 h']; rfl
    · rintro rfl; exact ⟨_, rfl, (memE_vals r h x.2 _).2 rfl⟩
  | .bool r, h, x, vs => by
    constructor
    · rintro ⟨vs', rfl, h'⟩; rw [(memE_vals r h x.2 vs').1 h']; rfl
    · rintro rfl; exact ⟨_, rfl, (memE_vals r h x.2 _).2 rfl⟩
  | .str r, h, x, vs => by
    constructor
    · rintro ⟨vs', rfl, h'⟩; rw [(memE_vals r h x.2 vs').1 h']; rfl
    · rintro rfl; exact ⟨_, rfl, (memE_vals r h x.2 _).2 rfl⟩
  | .sl _ _, h, _, _ => by cases h
theorem con_arg {α : Type} {A : Sh α} {k : α → Sig} {l : AV} {hp : List AO} {r : CR} (h : (SigP.arg A k).con l hp = some r) : ∃ x l' a, l = .cons x l' ∧ A.get x = some a ∧ (k a).con l' hp = some r := by
  cases l with
  | cons x l' =>
    simp only [SigP.con, SigP.get] at h
    split at h
    · rename_i a ha; exact ⟨x, l', a, rfl, ha, h⟩
    · cases h
  | _ => simp [SigP.con, SigP.get] at h
theorem con_obj {α : Type} {A : ShO α} {k : α → Sig} {l : AV} {hp : List AO} {r : CR} (h : (SigP.obj A k).con l hp = some r) : ∃ o hp' a, hp = o :: hp' ∧ o = A.put a ∧ (k a).con l hp' = some r := by
  cases hp with
  | cons o hp' =>
    simp only [SigP.con, SigP.get] at h
    split at h
    · rename_i a ha; exact ⟨o, hp', a, rfl, A.ok _ _ ha, h⟩
    · cases h
  | nil => simp [SigP.con, SigP.get] at h
theorem con_done {q : CR} {l : AV} {hp : List AO} {r : CR} (h : (SigP.done q).con l hp = some r) : l = .nil ∧ hp = [] ∧ r = q := by
  cases l <;> cases hp <;> simp [SigP.con, SigP.get] at h
  exact ⟨rfl, rfl, h.symm⟩
section
variable {t : Ty} [Inhabited (El t)] {w : World} {g n : Nat} {d : Array (El t)} {os : Array Obj}
theorem sortW_at {cur : Array Value} {e : TypeId} {mk : Nat × Nat} (h : w.heap[g]? = some (.cells cur e mk)) :
    (sortWorldK (valsE t) (tsz t) w g 0 n d os).heap[g]? = some (.cells (putCells id 0 (flatK (valsE t) (tsz t) d) cur) e mk) := by
  have hg : g < w.heap.size := (Array.getElem?_eq_some_iff.1 h).1
  simp only [sortWorldK, Go.Sort.grow, putRowK, putRow, mapBlock, Go.Sort.ahead]
  rw [Array.getElem?_append_left (by simpa using hg), Array.getElem?_modify, if_pos rfl, h]
  rfl
theorem sortW_other {b : Nat} (hb : b < w.heap.size) (hne : b ≠ g) : (sortWorldK (valsE t) (tsz t) w g 0 n d os).heap[b]? = w.heap[b]? := by
  simp only [sortWorldK, Go.Sort.grow, putRowK, putRow, mapBlock, Go.Sort.ahead]
  rw [Array.getElem?_append_left (by simpa using hb), Array.getElem?_modify, if_neg (fun e => hne e.symm)]
theorem sortW_size : w.heap.size ≤ (sortWorldK (valsE t) (tsz t) w g 0 n d os).heap.size := by
  simp only [sortWorldK, Go.Sort.grow, putRowK, putRow, mapBlock, Go.Sort.ahead]
  simp
end
theorem grown_of {W w' : World} (h : BelowD W.heap.size W w') : ∃ q os', w' = Go.Sort.grow (W.drewN q) os' := by
  refine ⟨w'.drawn - W.drawn, (w'.heap.toList.drop W.heap.size).toArray, ?_⟩
  have hh : w'.heap = W.heap ++ (w'.heap.toList.drop W.heap.size).toArray := by
    apply Array.ext_getElem?
    intro k
    by_cases hk : k < W.heap.size
    · rw [h.block k hk, Array.getElem?_append_left hk]
    · rw [Array.getElem?_append_right (by omega)]
      simp only [List.getElem?_toArray, List.getElem?_drop, Array.getElem?_toList]
      congr 1; omega
  have hd : w'.drawn = W.drawn + (w'.drawn - W.drawn) := by have := h.dr; omega
  have h1 := h.tape
  have h2 := h.os
  have h3 := h.output
  cases w'
  cases W
  simp only [Go.Sort.grow, World.drewN, World.mk.injEq]
  exact ⟨hh, h1, hd, h2, h3⟩
theorem dec_enc {α : Type} {no : α} {q : Bool} : ∀ (t : Ty), flatTy t = true → ∀ (x : El t) (K : Bool → El t → α), (∀ b b' y, K b y = K b' y) → decK t (encC q t x) no K = K true x
  | .nil, _, _, _, _ => rfl
  | .int k r, h, x, K, hK => by
    simp only [encC, decK, if_true]
    exact dec_enc r h x.2 _ fun b b' y => hK b b' _
  | .bool r, h, x, K, hK => by
    simp only [encC, decK]
    exact dec_enc r h x.2 _ fun b b' y => hK b b' _
  | .str r, h, x, K, hK => by
    simp only [encC, decK]
    exact dec_enc r h x.2 _ fun b b' y => hK b b' _
  | .sl _ _, h, _, _, _ => by cases h
def cmpSig (t : Ty) (cf : El t → El t → Int) : Sig := .arg (shT t) fun x => .arg (shT t) fun y => .done { pre := True, res := I (cf x y) }
def sortSig (t : Ty) (e : TypeId) (g : FuncId) (f : List (El t) → List (El t)) : Sig := .arg (shOw 0 (tsz t)) fun _ => .arg (shF g) fun _ => .obj (shRow t e) fun l => .done { pre := l.2.length < 4611686018427387904, res := .tup .nil, lent := [.row l.1 t e (f l.2)] }
theorem cmp_lays {P : Program} {t : Ty} (ht : flatTy t = true) {g : FuncId} {cf : El t → El t → Int} (hg : FnOk P g (cmpSig t cf).con) [Inhabited (El t)] (blk off size : Nat) (w : World) : CmpLays P g #[] (valsE t) (tsz t) cf blk off size w := by
  intro m os dk _ x y
  generalize sortWorldK (valsE t) (tsz t) w blk off m dk os = W
  have hget : ∀ z : El t, (shT t).get (.agg (encC false t z)) = some z := fun z => dec_enc t ht z _ fun _ _ _ => rfl
  have hk : (cmpSig t cf).con (.cons (.agg (encC false t x)) (.cons (.agg (encC false t y)) .nil)) [] = some { pre := True, res := I (cf x y) } := by
    simp only [cmpSig, SigP.con, SigP.get, hget]
  have hsat : ∀ z : El t, sat (.agg (encC false t z)) (cx0 W) [.agg (valsE t z).toArray] := fun z => ⟨_, rfl, encC_ok t z _ ((memE_vals t ht z _).2 (by simp))⟩
  refine ((hg _ [] _ hk trivial (cx0 W) #[.agg (valsE t x).toArray, .agg (valsE t y).toArray] ⟨_, _, rfl, hsat x, ⟨_, _, rfl, hsat y, rfl⟩⟩ (obs_none rfl (fun b hb => hb.elim) (Nat.zero_le _))).2).mono fun e w' he => ?_
  obtain ⟨v, c', rfl, rfl, hx, _, _, hres⟩ := he
  have : v = .int .i64 (cf x y) := by simpa [sat] using hres
  rw [this]
  exact ⟨rfl, grown_of (ext_below hx rfl)⟩
theorem holds_row {c : Cx} {g : Nat} {cur : Array Value} {e : TypeId} {t : Ty} [Inhabited (El t)] {l : List (El t)} (hr : rowHeap c.w g cur e) (hsz : l.length * tsz t ≤ cur.size) (hx : ∀ j y, l[j]? = some y → ((cur.toList.take (l.length * tsz t)).drop (j * tsz t)).take (tsz t) = valsE t y) (h0 : 0 < tsz t) :
    HoldsK (valsE t) (tsz t) c.w g 0 l.toArray := by
  intro j hj
  have hj' : j < l.length * tsz t := by simpa using hj
  have hq : j / tsz t < l.length := Nat.div_lt_of_lt_mul (by rw [Nat.mul_comm]; exact hj')
  have hmod : j % tsz t < tsz t := Nat.mod_lt _ h0
  have hdm : j / tsz t * tsz t + j % tsz t = j := Nat.div_add_mod' j _
  rw [Nat.zero_add]
  refine ⟨?_, hr.shut (by omega)⟩
  rw [hr.cell, get_flatK _ _ _ _ (by simpa using hj')]
  have h1 := congrArg (fun z : List Value => z[j % tsz t]?) (hx _ _ (List.getElem?_eq_getElem hq))
  simp only [List.getElem?_take, if_pos hmod, List.getElem?_drop, hdm, if_pos hj', Array.getElem?_toList] at h1
  rw [h1, List.getElem?_eq_getElem (by rw [valsE_len]; exact hmod)]
  simp only [id]
  congr 1
  rw [getElem!_pos l.toArray _ (by simpa using hq), getElem!_pos _ _ (by rw [valsE_len]; exact hmod)]
  rfl
theorem fnOk_sort {P : Program} {ρ : Ren} (L : SlLaysF0.n6 P ρ) {t : Ty} (ht : flatTy t = true) (e : TypeId) (aE : ∀ w, (isAgg (ρ.t 24)).run P w = .ok true w) (zE : ∀ w, (Go.sizeOf (ρ.t 24)).run P w = .ok (tsz t) w) (g : FuncId) (cf : El t → El t → Int) (hO : SWO (ltOf cf))
    (hT : ∀ x y, ltOf cf x y = false → ltOf cf y x = false → x = y) (eg : ∀ args w, (callFunc g args).run P w = .ok (.enter g args) w) (hg : FnOk P g (cmpSig t cf).con) {s : FuncId} (hs6 : s = ρ.f 6) (hfn : ∃ fn : Func, P.funcs[s]? = some fn ∧ fn.body.isSome = true ∧ fn.name ≠ "runtime.NumGoroutine") :
    FnOk P s (sortSig t e g fun l => l.mergeSort fun x y => !(ltOf cf) y x).con := by
  haveI : Inhabited (El t) := ⟨zeroE t⟩
  intro l hp r hk hpre c args hs hob
  obtain ⟨x, l1, n, rfl, hx, hk⟩ := con_arg hk
  obtain ⟨y, l2, _, rfl, hy, hk⟩ := con_arg hk
  obtain ⟨o, hp', ⟨q, m⟩, rfl, ho, hk⟩ := con_obj hk
  obtain ⟨rfl, rfl, rfl⟩ := con_done hk
  have hlen : m.length < 4611686018427387904 := hpre
  obtain ⟨v1, r1, e1, s1, hs⟩ := hs
  obtain ⟨v2, r2, e2, s2, hs⟩ := hs
  have hr2 : r2 = [] := hs
  subst e2 hr2
  obtain ⟨hin, hn, ev1, A, mm, hA, hmm⟩ := (shOw 0 (tsz t)).ok _ _ hx _ _ s1
  obtain ⟨cs, ev2, hcs⟩ := (shF g).ok _ _ hy _ _ s2
  have hcs : cs = #[] := by
    have : cs.toList = [] := hcs
    exact Array.toList_eq_nil_iff.1 this
  subst hcs
  have e1' : v1 = c.val 0 := by simpa using ev1
  have e2' : v2 = .func (.func g) #[] #[] := by simpa using ev2
  subst e1' e2'
  have hargs : args = #[c.val 0, .func (.func g) #[] #[]] := by rw [← Array.toList_inj, e1]
  subst hargs
  have ho : o = .row q t e m := ho
  subst ho
  have hc1 : c.n = 1 := by simpa using hob.nc
  obtain ⟨h0, hml, hq, xs, hxl, hcase, hmem⟩ := (hob.o 0 _ rfl : rowAt c 0 q t e m)
  refine ⟨hfn, ?_⟩
  subst hs6
  rcases hcase with ⟨hm, A', hv, hkey⟩ | ⟨b, cap, cur, hv, hkey, hrow, hcap, hcapm, hsz, htk⟩
  · subst hm
    rw [hv]
    refine (AnyF.slices_SortFunc_none L A' 0 _ c.w).mono fun ed w' he => ?_
    obtain ⟨rfl, rfl⟩ := he
    refine ⟨_, c, rfl, rfl, ⟨rfl, rfl, rfl, Nat.le_refl _, Nat.le_refl _, fun _ _ _ h => h, fun _ _ _ => ⟨rfl, rfl⟩, rfl, fun _ _ _ => rfl, fun _ _ h => h, fun _ h _ => h, fun i b hi hk _ => ⟨i, hi, hk⟩, Nat.le_refl _⟩, ?_, rfl, ⟨_, rfl, rfl⟩⟩
    simpa using hob
  · have hvals : ∀ j y, m[j]? = some y → (xs.drop (j * tsz t)).take (tsz t) = valsE t y := fun j y hj => (memE_vals t ht y _).1 (hmem j y hj)
    have hlc : m.length * tsz t ≤ cur.size := by rw [hsz]; exact Nat.mul_le_mul_right _ hcap
    have hH := holds_row (c := c) hrow hlc (fun j y hj => by rw [htk]; exact hvals j y hj) h0
    obtain ⟨hbO, hbs⟩ := hob.kb 0 b (by omega) ((hkey b).2 rfl)
    have hsort := AnyQ.slices_SortFunc_total L (tsz t) aE zE (valsE t) (valsE_len t) (valsE_one t) cf hO g #[] b 0 cap m.toArray c.w eg (cmp_lays ht hg b 0 _ c.w) hH hbs (by simpa using hlen) hT
    rw [hv]
    have e3 : m.toArray.size = m.length := by simp
    rw [e3] at hsort
    refine hsort.mono fun ed w' he => ?_
    obtain ⟨rfl, n', os, rfl⟩ := he
    obtain ⟨mk, hb1, hmk⟩ := hrow
    generalize hsl : m.mergeSort (fun x y => !(ltOf cf) y x) = sl
    have hll : sl.length = m.length := by rw [← hsl]; simp
    have hat := sortW_at (t := t) (n := n') (d := sl.toArray) (os := os) hb1
    have hoth : ∀ k, k < c.w.heap.size → k ≠ b → (sortWorldK (valsE t) (tsz t) c.w b 0 n' sl.toArray os).heap[k]? = c.w.heap[k]? := fun k hk hne => sortW_other hk hne
    have hszw : c.w.heap.size ≤ (sortWorldK (valsE t) (tsz t) c.w b 0 n' sl.toArray os).heap.size := sortW_size
    have hw1 : (sortWorldK (valsE t) (tsz t) c.w b 0 n' sl.toArray os).os = c.w.os := rfl
    have hw2 : (sortWorldK (valsE t) (tsz t) c.w b 0 n' sl.toArray os).tape = c.w.tape := rfl
    have hw3 : (sortWorldK (valsE t) (tsz t) c.w b 0 n' sl.toArray os).output = c.w.output := rfl
    have hw4 : c.w.drawn ≤ (sortWorldK (valsE t) (tsz t) c.w b 0 n' sl.toArray os).drawn := Nat.le_add_right _ _
    generalize sortWorldK (valsE t) (tsz t) c.w b 0 n' sl.toArray os = W at hat hoth hszw hw1 hw2 hw3 hw4
    have hkn : ∀ i b', i < c.n → c.key i b' → i = 0 ∧ b' = b := fun i b' hi hk => by
      have : i = 0 := by omega
      subst this
      have hk := (hkey b').1 hk
      exact ⟨rfl, hk⟩
    refine ⟨_, c.to W, rfl, rfl, ⟨hw1, hw2, hw3, hszw, Nat.le_refl _, fun _ _ _ h => h, fun _ _ _ => ⟨rfl, rfl⟩, rfl, fun k hk hno => hoth k hk fun e => hno 0 (by omega) ((hkey k).2 e), fun _ _ h => h, fun _ h _ => h, fun i b' hi hk _ => ⟨i, hi, hk⟩, hw4⟩, ?_, rfl, ⟨_, rfl, rfl⟩⟩
    refine ⟨hc1, fun i o ho => ?_, hob.dj, fun i b' hi hk => ⟨(hob.kb i b' hi hk).1, Nat.lt_of_lt_of_le (hob.kb i b' hi hk).2 hszw⟩, fun b' h => Nat.lt_of_lt_of_le (hob.ol b' h) hszw, Nat.le_trans hob.bz hszw⟩
    have hi0 : i = 0 := by have := (List.getElem?_eq_some_iff.1 ho).1; simp at this; omega
    subst hi0
    have ho : o = .row q t e sl := by rw [← hsl]; simpa using ho.symm
    subst ho
    have hcs : (putCells id 0 (flatK (valsE t) (tsz t) sl.toArray) cur).size = cur.size := by simp [putCells]
    refine ⟨h0, hll.trans hml, hq, (putCells id 0 (flatK (valsE t) (tsz t) sl.toArray) cur).toList.take (sl.length * tsz t), ?_, .inr ⟨b, cap, _, ?_, hkey, ⟨mk, hat, by rw [hcs]; exact hmk⟩, by omega, hcapm, hcs.trans hsz, rfl⟩, fun j y hj => (memE_vals t ht y _).2 ?_⟩
    · have h5 : (putCells id 0 (flatK (valsE t) (tsz t) sl.toArray) cur).toList.length = cur.size := (Array.length_toList).trans hcs
      rw [List.length_take, h5, hll, Nat.min_eq_left hlc]
    · rw [hll]; exact hv
    · have hjl : j < sl.length := (List.getElem?_eq_some_iff.1 hj).1
      have hjb : (j + 1) * tsz t ≤ sl.length * tsz t := Nat.mul_le_mul_right _ hjl
      rw [Nat.add_mul, Nat.one_mul] at hjb
      apply List.ext_getElem?
      intro p
      rw [List.getElem?_take]
      by_cases hp : p < tsz t
      · rw [if_pos hp, List.getElem?_drop, List.getElem?_take, if_pos (by omega), Array.getElem?_toList, putCells, Array.getElem?_mapIdx]
        have hcur : j * tsz t + p < cur.size := by rw [hll] at hjb; omega
        rw [Array.getElem?_eq_getElem hcur, Option.map_some, if_pos ⟨Nat.zero_le _, by rw [size_flatK]; simp; omega⟩, Nat.sub_zero, get_flatK _ _ _ _ (by simp; omega)]
        have hd : (j * tsz t + p) / tsz t = j := by rw [Nat.mul_comm, Nat.mul_add_div h0, Nat.div_eq_of_lt hp]; rfl
        have hmm : (j * tsz t + p) % tsz t = p := by rw [Nat.mul_comm, Nat.mul_add_mod, Nat.mod_eq_of_lt hp]
        rw [hd, hmm, getElem!_pos sl.toArray j (by simpa using hjl)]
        have hy : sl[j] = y := by
          have := List.getElem?_eq_getElem hjl
          rw [this] at hj; injection hj
        rw [show sl.toArray[j]'(by simpa using hjl) = y by simpa using hy]
        rw [List.getElem?_eq_getElem (by rw [valsE_len]; exact hp)]
        simp only [id]
        congr 1
        exact getElem!_pos _ _ (by rw [valsE_len]; exact hp)
      · rw [if_neg hp, List.getElem?_eq_none (by rw [valsE_len]; omega)]
theorem drop_get' {t : Ty} (l : List (El t)) {j : Nat} (h : j < l.length) : l.drop j = getE t l j :: l.drop (j + 1) := by
  rw [List.drop_eq_getElem_cons h]
  congr 1
  unfold getE
  rw [List.getD_eq_getElem?_getD, List.getElem?_eq_getElem h]
  rfl
theorem lt_t' {j n : Nat} (h : decide ((j : Int) < (n : Int)) = true) : j < n := Int.ofNat_lt.1 (of_decide_eq_true h)
theorem lt_f' {j n : Nat} (h : decide ((j : Int) < (n : Int)) = false) : n ≤ j := Nat.le_of_not_lt fun hh => of_decide_eq_false h (Int.ofNat_lt.2 hh)
theorem wrapS' {j : Nat} (h : j < 4611686018427387904) : IntKind.i64.wrap ((j : Int) + 1) = ((j + 1 : Nat) : Int) := by
  rw [IntKind.wrap_i64]; omega
end Go.Proofs.Ytgmbmpojcnmcgaa.Eng

/- Layer 12's and 13's records in plain Lean: their order, what is sorted. -/
namespace Go.Proofs.Ytgmbmpojcnmcgaa
open Go Go.Sort Go.RowKit Go.Proofs Go.Proofs.Ytgmbmpojcnmcgaa.Eng
abbrev tR : Ty := .int .i64 (.int .i64 .nil)
abbrev Rec : Type := El tR
abbrev tI' : Ty := .int .i64 .nil
def cmpI (x y : Int) : Int := if x < y then -1 else if y < x then 1 else 0
def orI : List (El tI') → Int
  | [] => 0
  | x :: r => if x.1 = 0 then orI r else x.1
def ordR (x y : Rec) : Int := orI [(cmpI x.1 y.1, ()), (cmpI x.2.1 y.2.1, ())]
theorem ordR_lt (x y : Rec) : ltOf ordR x y = true ↔ (x.1 < y.1 ∨ x.1 = y.1 ∧ x.2.1 < y.2.1) := by
  obtain ⟨a1, a2, _⟩ := x
  obtain ⟨b1, b2, _⟩ := y
  have hc : ∀ u v : Int, cmpI u v = 0 ↔ u = v := fun u v => by unfold cmpI; split <;> (try split) <;> constructor <;> intro h <;> first | omega | (exfalso; revert h; decide) | rfl
  have hn : ∀ u v : Int, cmpI u v < 0 ↔ u < v := fun u v => by unfold cmpI; split <;> (try split) <;> constructor <;> intro h <;> first | omega | (exfalso; revert h; decide) | decide
  unfold ltOf ordR
  simp only [orI, decide_eq_true_eq, hc]
  repeat' split
  all_goals (try simp only [hn])
  all_goals first | omega | (rename_i h; rw [hc] at h; omega)
theorem ordR_swo : SWO (ltOf ordR) where
  irrefl x := by
    have := ordR_lt x x
    cases h : ltOf ordR x x with
    | false => rfl
    | true => exact absurd (this.1 h) (by omega)
  trans x y z h1 h2 := by rw [ordR_lt] at *; omega
  ntrans x y z h1 h2 := by
    rw [Bool.eq_false_iff, ne_eq, ordR_lt] at *; omega
theorem ordR_parts (x y : Rec) (h1 : ltOf ordR x y = false) (h2 : ltOf ordR y x = false) : x = y := by
  rw [Bool.eq_false_iff, ne_eq, ordR_lt] at h1 h2
  obtain ⟨a1, a2, _⟩ := x
  obtain ⟨b1, b2, _⟩ := y
  simp only [Prod.mk.injEq, and_true]
  dsimp only at h1 h2
  omega
def leR (x y : Rec) : Bool := !(ltOf ordR) y x
def srtR (l : List Rec) : List Rec := l.mergeSort fun x y => !(ltOf ordR) y x
theorem srtR_len (l : List Rec) : (srtR l).length = l.length := by unfold srtR; simp
theorem srtR_perm (l : List Rec) : (srtR l).Perm l := List.mergeSort_perm _ _
theorem leR_iff (x y : Rec) : leR x y = true ↔ (x.1 < y.1 ∨ x.1 = y.1 ∧ x.2.1 ≤ y.2.1) := by
  unfold leR
  have := ordR_lt y x
  cases h : ltOf ordR y x
  · rw [h] at this; simp at this ⊢; omega
  · rw [h] at this; simp at this ⊢; omega
theorem srtR_sorted (l : List Rec) : (srtR l).Pairwise (fun x y => leR x y = true) := by
  apply List.pairwise_mergeSort
  · intro a b c h1 h2
    have h1 := (leR_iff a b).1 h1; have h2 := (leR_iff b c).1 h2
    exact (leR_iff a c).2 (by omega)
  · intro a b
    have h1 := leR_iff a b; have h2 := leR_iff b a
    show (leR a b || leR b a) = true
    rw [Bool.or_eq_true, h1, h2]; omega
theorem leR_anti {x y : Rec} (h1 : leR x y = true) (h2 : leR y x = true) : x = y := by
  rw [leR_iff] at h1 h2
  obtain ⟨a1, a2, _⟩ := x
  obtain ⟨b1, b2, _⟩ := y
  simp only [Prod.mk.injEq, and_true]
  dsimp only at h1 h2
  omega
theorem sorted_eq : ∀ {l m : List Rec}, l.Perm m → l.Pairwise (fun x y => leR x y = true) → m.Pairwise (fun x y => leR x y = true) → l = m
  | [], m, h, _, _ => h.nil_eq
  | x :: l, [], h, _, _ => absurd h.length_eq (by simp)
  | x :: l, y :: m, h, hl, hm => by
    have e : x = y := by
      have hx : x ∈ y :: m := h.subset (by simp)
      have hy : y ∈ x :: l := h.symm.subset (by simp)
      rcases List.mem_cons.1 hx with h1 | h1
      · exact h1
      · rcases List.mem_cons.1 hy with h2 | h2
        · exact h2.symm
        · exact leR_anti ((List.pairwise_cons.1 hl).1 y h2) ((List.pairwise_cons.1 hm).1 x h1)
    subst e
    rw [sorted_eq (List.Perm.cons_inv h) (List.pairwise_cons.1 hl).2 (List.pairwise_cons.1 hm).2]
theorem srtR_eq {l m : List Rec} (h : l.Perm m) : srtR l = srtR m :=
  sorted_eq ((srtR_perm l).trans (h.trans (srtR_perm m).symm)) (srtR_sorted l) (srtR_sorted m)
theorem srtR_of {l m : List Rec} (h : l.Perm m) (hm : m.Pairwise (fun x y => leR x y = true)) : srtR l = m :=
  sorted_eq ((srtR_perm l).trans h) (srtR_sorted l) hm
def insR (x : Rec) : List Rec → List Rec
  | [] => [x]
  | y :: r => if leR y x = true then y :: insR x r else x :: y :: r
end Go.Proofs.Ytgmbmpojcnmcgaa

/- The table of this seat's types for the engine, with its proofs: printed by wip/tool/gen_ty.py. -/
namespace Go.Proofs.Ytgmbmpojcnmcgaa
open Go Go.RowKit Go.Proofs.Ytgmbmpojcnmcgaa.Eng
theorem ty2 : TIok Try.prog 2 {ze := some (.int .i64 0), eq := some [0], ik := some .i64, by_ := 8, ro := some (.int .i64 .nil)} := ti0 rfl (by kernel_rfl) (by kernel_rfl) (by kernel_rfl) ⟨.inr ⟨by kernel_rfl, by kernel_rfl⟩, .inr (by kernel_rfl)⟩ (by kernel_rfl) (.inr rfl) (.inr (by kernel_rfl))
theorem ty3 : TIok Try.prog 3 {ze := some (.int .i64 0), eq := some [0], ik := some .i64, by_ := 8, ro := some (.int .i64 .nil)} := ti0 rfl (by kernel_rfl) (by kernel_rfl) (by kernel_rfl) ⟨.inr ⟨by kernel_rfl, by kernel_rfl⟩, .inr (by kernel_rfl)⟩ (by kernel_rfl) (.inr rfl) (.inr (by kernel_rfl))
theorem ty4 : TIok Try.prog 4 {ze := some (.bool false), eq := some [1], by_ := 1, ro := some (.bool .nil)} := ti0 rfl (by kernel_rfl) (by kernel_rfl) (by kernel_rfl) ⟨.inr ⟨by kernel_rfl, by kernel_rfl⟩, .inl rfl⟩ (by kernel_rfl) (.inr rfl) (.inr (by kernel_rfl))
theorem ty5 : TIok Try.prog 5 {ze := some (.int .u8 0), eq := some [0], ik := some .u8, by_ := 1, ro := some (.int .u8 .nil)} := ti0 rfl (by kernel_rfl) (by kernel_rfl) (by kernel_rfl) ⟨.inr ⟨by kernel_rfl, by kernel_rfl⟩, .inr (by kernel_rfl)⟩ (by kernel_rfl) (.inr rfl) (.inr (by kernel_rfl))
theorem ty9 : TIok Try.prog 9 {kd := 5, ze := some (.string "".toUTF8), eq := some [2], by_ := 16, ro := some (.str .nil)} := ti5 rfl (by kernel_rfl) (by kernel_rfl) (by kernel_rfl) ⟨.inr ⟨by kernel_rfl, by kernel_rfl⟩, .inl rfl⟩ (by kernel_rfl) (.inr rfl) (.inr (by kernel_rfl)) (by kernel_rfl)
theorem ty12 : TIok Try.prog 12 {ze := some (.int .u64 0), eq := some [0], ik := some .u64, by_ := 8, ro := some (.int .u64 .nil)} := ti0 rfl (by kernel_rfl) (by kernel_rfl) (by kernel_rfl) ⟨.inr ⟨by kernel_rfl, by kernel_rfl⟩, .inr (by kernel_rfl)⟩ (by kernel_rfl) (.inr rfl) (.inr (by kernel_rfl))
theorem ty21 : TIok Try.prog 21 {ze := some (.int .i32 0), eq := some [0], ik := some .i32, by_ := 4, ro := some (.int .i32 .nil)} := ti0 rfl (by kernel_rfl) (by kernel_rfl) (by kernel_rfl) ⟨.inr ⟨by kernel_rfl, by kernel_rfl⟩, .inr (by kernel_rfl)⟩ (by kernel_rfl) (.inr rfl) (.inr (by kernel_rfl))
theorem ty22 : TIok Try.prog 22 {kd := 3, el := 3, ze := some (.slice none 0 0), by_ := 24, ro := some (.sl (.int .i64 .nil) .nil)} := ti3 rfl (by kernel_rfl) (by kernel_rfl) (by kernel_rfl) ⟨.inl rfl, .inl rfl⟩ (by kernel_rfl) (.inr rfl) (.inr (by kernel_rfl)) (by kernel_rfl)
theorem ty23 : TIok Try.prog 23 {kd := 1, sz := 5, ag := true, fl := [(0, 5), (1, 5), (2, 2), (3, 3), (4, 22)], pl := [(0, 1), (1, 1), (2, 1), (3, 1), (4, 1)], ze := some (.agg #[.int .u8 0, .int .u8 0, .int .i64 0, .int .i64 0, .slice none 0 0]), by_ := 48, ro := some (.int .u8 (.int .u8 (.int .i64 (.int .i64 (.sl (.int .i64 .nil) .nil)))))} := ti1 rfl (by kernel_rfl) (by kernel_rfl) (by kernel_rfl) ⟨.inl rfl, .inl rfl⟩ (by kernel_rfl) (.inr rfl) (.inr (by kernel_rfl)) Try.underlying23 rfl (by kernel_rfl)
theorem ty24 : TIok Try.prog 24 {kd := 1, sz := 5, ag := true, fl := [(0, 5), (1, 5), (2, 2), (3, 3), (4, 22)], pl := [(0, 1), (1, 1), (2, 1), (3, 1), (4, 1)], ze := some (.agg #[.int .u8 0, .int .u8 0, .int .i64 0, .int .i64 0, .slice none 0 0]), by_ := 48, ro := some (.int .u8 (.int .u8 (.int .i64 (.int .i64 (.sl (.int .i64 .nil) .nil)))))} := ti1 rfl (by kernel_rfl) (by kernel_rfl) (by kernel_rfl) ⟨.inl rfl, .inl rfl⟩ (by kernel_rfl) (.inr rfl) (.inr (by kernel_rfl)) Try.underlying24 rfl (by kernel_rfl)
theorem ty25 : TIok Try.prog 25 {kd := 3, el := 28, ze := some (.slice none 0 0), by_ := 24, ro := some (.sl (.sl (.int .i64 (.int .i64 .nil)) .nil) .nil)} := ti3 rfl (by kernel_rfl) (by kernel_rfl) (by kernel_rfl) ⟨.inl rfl, .inl rfl⟩ (by kernel_rfl) (.inr rfl) (.inr (by kernel_rfl)) (by kernel_rfl)
theorem ty28 : TIok Try.prog 28 {kd := 3, el := 36, ze := some (.slice none 0 0), by_ := 24, ro := some (.sl (.int .i64 (.int .i64 .nil)) .nil)} := ti3 rfl (by kernel_rfl) (by kernel_rfl) (by kernel_rfl) ⟨.inl rfl, .inl rfl⟩ (by kernel_rfl) (.inr rfl) (.inr (by kernel_rfl)) (by kernel_rfl)
theorem ty29 : TIok Try.prog 29 {ze := some (.int .i64 0), eq := some [0], ik := some .i64, by_ := 8, ro := some (.int .i64 .nil)} := ti0 rfl (by kernel_rfl) (by kernel_rfl) (by kernel_rfl) ⟨.inr ⟨by kernel_rfl, by kernel_rfl⟩, .inr (by kernel_rfl)⟩ (by kernel_rfl) (.inr rfl) (.inr (by kernel_rfl))
theorem ty35 : TIok Try.prog 35 {kd := 1, sz := 2, ag := true, fl := [(0, 2), (1, 2)], pl := [(0, 1), (1, 1)], ze := some (.agg #[.int .i64 0, .int .i64 0]), eq := some [0, 0], by_ := 16, ro := some (.int .i64 (.int .i64 .nil))} := ti1 rfl (by kernel_rfl) (by kernel_rfl) (by kernel_rfl) ⟨.inr ⟨by kernel_rfl, by kernel_rfl⟩, .inl rfl⟩ (by kernel_rfl) (.inr rfl) (.inr (by kernel_rfl)) Try.underlying35 rfl (by kernel_rfl)
theorem ty36 : TIok Try.prog 36 {kd := 1, sz := 2, ag := true, fl := [(0, 2), (1, 2)], pl := [(0, 1), (1, 1)], ze := some (.agg #[.int .i64 0, .int .i64 0]), eq := some [0, 0], by_ := 16, ro := some (.int .i64 (.int .i64 .nil))} := ti1 rfl (by kernel_rfl) (by kernel_rfl) (by kernel_rfl) ⟨.inr ⟨by kernel_rfl, by kernel_rfl⟩, .inl rfl⟩ (by kernel_rfl) (.inr rfl) (.inr (by kernel_rfl)) Try.underlying36 rfl (by kernel_rfl)
theorem ty38 : TIok Try.prog 38 {kd := 2, sz := 3, ag := true, ar := 3, el := 3, ze := some (.agg #[.int .i64 0, .int .i64 0, .int .i64 0]), eq := some [0, 0, 0], by_ := 24, ro := some (.int .i64 (.int .i64 (.int .i64 .nil)))} := ti2 rfl (by kernel_rfl) (by kernel_rfl) (by kernel_rfl) ⟨.inr ⟨by kernel_rfl, by kernel_rfl⟩, .inl rfl⟩ (by kernel_rfl) (.inr rfl) (.inr (by kernel_rfl)) (by kernel_rfl)
theorem ty39 : TIok Try.prog 39 {kd := 1, sz := 5, ag := true, fl := [(0, 3), (1, 3), (2, 38)], pl := [(0, 1), (1, 1), (2, 3)], ze := some (.agg #[.int .i64 0, .int .i64 0, .int .i64 0, .int .i64 0, .int .i64 0]), eq := some [0, 0, 0, 0, 0], by_ := 40, ro := some (.int .i64 (.int .i64 (.int .i64 (.int .i64 (.int .i64 .nil)))))} := ti1 rfl (by kernel_rfl) (by kernel_rfl) (by kernel_rfl) ⟨.inr ⟨by kernel_rfl, by kernel_rfl⟩, .inl rfl⟩ (by kernel_rfl) (.inr rfl) (.inr (by kernel_rfl)) Try.underlying39 rfl (by kernel_rfl)
theorem ty40 : TIok Try.prog 40 {kd := 1, sz := 5, ag := true, fl := [(0, 3), (1, 3), (2, 38)], pl := [(0, 1), (1, 1), (2, 3)], ze := some (.agg #[.int .i64 0, .int .i64 0, .int .i64 0, .int .i64 0, .int .i64 0]), eq := some [0, 0, 0, 0, 0], by_ := 40, ro := some (.int .i64 (.int .i64 (.int .i64 (.int .i64 (.int .i64 .nil)))))} := ti1 rfl (by kernel_rfl) (by kernel_rfl) (by kernel_rfl) ⟨.inr ⟨by kernel_rfl, by kernel_rfl⟩, .inl rfl⟩ (by kernel_rfl) (.inr rfl) (.inr (by kernel_rfl)) Try.underlying40 rfl (by kernel_rfl)
theorem ty48 : TIok Try.prog 48 {kd := 3, el := 5, ze := some (.slice none 0 0), by_ := 24, ro := some (.sl (.int .u8 .nil) .nil)} := ti3 rfl (by kernel_rfl) (by kernel_rfl) (by kernel_rfl) ⟨.inl rfl, .inl rfl⟩ (by kernel_rfl) (.inr rfl) (.inr (by kernel_rfl)) (by kernel_rfl)
theorem ty49 : TIok Try.prog 49 {kd := 3, el := 25, ze := some (.slice none 0 0), by_ := 24, ro := some (.sl (.sl (.sl (.int .i64 (.int .i64 .nil)) .nil) .nil) .nil)} := ti3 rfl (by kernel_rfl) (by kernel_rfl) (by kernel_rfl) ⟨.inl rfl, .inl rfl⟩ (by kernel_rfl) (.inr rfl) (.inr (by kernel_rfl)) (by kernel_rfl)
theorem ty55 : TIok Try.prog 55 {kd := 3, el := 2, ze := some (.slice none 0 0), by_ := 24, ro := some (.sl (.int .i64 .nil) .nil)} := ti3 rfl (by kernel_rfl) (by kernel_rfl) (by kernel_rfl) ⟨.inl rfl, .inl rfl⟩ (by kernel_rfl) (.inr rfl) (.inr (by kernel_rfl)) (by kernel_rfl)
theorem ty61 : TIok Try.prog 61 {kd := 3, el := 24, ze := some (.slice none 0 0), by_ := 24, ro := some (.sl (.int .u8 (.int .u8 (.int .i64 (.int .i64 (.sl (.int .i64 .nil) .nil))))) .nil)} := ti3 rfl (by kernel_rfl) (by kernel_rfl) (by kernel_rfl) ⟨.inl rfl, .inl rfl⟩ (by kernel_rfl) (.inr rfl) (.inr (by kernel_rfl)) (by kernel_rfl)
theorem ty62 : TIok Try.prog 62 {kd := 3, el := 24, ze := some (.slice none 0 0), by_ := 24, ro := some (.sl (.int .u8 (.int .u8 (.int .i64 (.int .i64 (.sl (.int .i64 .nil) .nil))))) .nil)} := ti3 rfl (by kernel_rfl) (by kernel_rfl) (by kernel_rfl) ⟨.inl rfl, .inl rfl⟩ (by kernel_rfl) (.inr rfl) (.inr (by kernel_rfl)) (by kernel_rfl)
theorem ty65 : TIok Try.prog 65 {kd := 4, el := 64, ky := 5, fz := true, mv := some (false, false, .int .u8 .nil, .fn), ze := some (.map none), by_ := 8} := ti4 rfl (by kernel_rfl) (by kernel_rfl) (by kernel_rfl) ⟨.inl rfl, .inl rfl⟩ (by kernel_rfl) (.inl rfl) (.inr (by kernel_rfl)) (by kernel_rfl) (.inr (by kernel_rfl))
theorem ty77 : TIok Try.prog 77 {kd := 4, el := 2, ky := 2, mv := some (false, false, .int .i64 .nil, .el (.int .i64 .nil)), ze := some (.map none), by_ := 8} := ti4 rfl (by kernel_rfl) (by kernel_rfl) (by kernel_rfl) ⟨.inl rfl, .inl rfl⟩ (by kernel_rfl) (.inl rfl) (.inr (by kernel_rfl)) (by kernel_rfl) (.inl rfl)
theorem ty79 : TIok Try.prog 79 {kd := 4, el := 55, ky := 2, mv := some (false, false, .int .i64 .nil, .own (.int .i64 .nil) 2), ze := some (.map none), by_ := 8} := ti4 rfl (by kernel_rfl) (by kernel_rfl) (by kernel_rfl) ⟨.inl rfl, .inl rfl⟩ (by kernel_rfl) (.inl rfl) (.inr (by kernel_rfl)) (by kernel_rfl) (.inl rfl)
theorem ty87 : TIok Try.prog 87 {ze := some (.int .u64 0), eq := some [0], ik := some .u64, by_ := 8, ro := some (.int .u64 .nil)} := ti0 rfl (by kernel_rfl) (by kernel_rfl) (by kernel_rfl) ⟨.inr ⟨by kernel_rfl, by kernel_rfl⟩, .inr (by kernel_rfl)⟩ (by kernel_rfl) (.inr rfl) (.inr (by kernel_rfl))
theorem ty90 : TIok Try.prog 90 {kd := 4, el := 73, ky := 5, fz := true, mv := some (false, false, .int .u8 .nil, .fn), ze := some (.map none), by_ := 8} := ti4 rfl (by kernel_rfl) (by kernel_rfl) (by kernel_rfl) ⟨.inl rfl, .inl rfl⟩ (by kernel_rfl) (.inl rfl) (.inr (by kernel_rfl)) (by kernel_rfl) (.inr (by kernel_rfl))
theorem ty104 : TIok Try.prog 104 {ze := some (.int .u32 0), eq := some [0], ik := some .u32, by_ := 4, ro := some (.int .u32 .nil)} := ti0 rfl (by kernel_rfl) (by kernel_rfl) (by kernel_rfl) ⟨.inr ⟨by kernel_rfl, by kernel_rfl⟩, .inr (by kernel_rfl)⟩ (by kernel_rfl) (.inr rfl) (.inr (by kernel_rfl))
theorem ty106 : TIok Try.prog 106 {ze := some (.int .u64 0), eq := some [0], ik := some .u64, by_ := 8, ro := some (.int .u64 .nil)} := ti0 rfl (by kernel_rfl) (by kernel_rfl) (by kernel_rfl) ⟨.inr ⟨by kernel_rfl, by kernel_rfl⟩, .inr (by kernel_rfl)⟩ (by kernel_rfl) (.inr rfl) (.inr (by kernel_rfl))
theorem ty113 : TIok Try.prog 113 {ze := some (.pointer none), by_ := 8} := ti0 rfl (by kernel_rfl) (by kernel_rfl) (by kernel_rfl) ⟨.inl rfl, .inl rfl⟩ (by kernel_rfl) (.inl rfl) (.inr (by kernel_rfl))
theorem ty128 : TIok Try.prog 128 {ze := some (.pointer none), by_ := 8} := ti0 rfl (by kernel_rfl) (by kernel_rfl) (by kernel_rfl) ⟨.inl rfl, .inl rfl⟩ (by kernel_rfl) (.inl rfl) (.inr (by kernel_rfl))
def tys : List (TypeId × TI) := [
  (2, {ze := some (.int .i64 0), eq := some [0], ik := some .i64, by_ := 8, ro := some (.int .i64 .nil)}),
  (3, {ze := some (.int .i64 0), eq := some [0], ik := some .i64, by_ := 8, ro := some (.int .i64 .nil)}),
  (4, {ze := some (.bool false), eq := some [1], by_ := 1, ro := some (.bool .nil)}),
  (5, {ze := some (.int .u8 0), eq := some [0], ik := some .u8, by_ := 1, ro := some (.int .u8 .nil)}),
  (9, {kd := 5, ze := some (.string "".toUTF8), eq := some [2], by_ := 16, ro := some (.str .nil)}),
  (12, {ze := some (.int .u64 0), eq := some [0], ik := some .u64, by_ := 8, ro := some (.int .u64 .nil)}),
  (21, {ze := some (.int .i32 0), eq := some [0], ik := some .i32, by_ := 4, ro := some (.int .i32 .nil)}),
  (22, {kd := 3, el := 3, ze := some (.slice none 0 0), by_ := 24, ro := some (.sl (.int .i64 .nil) .nil)}),
  (23, {kd := 1, sz := 5, ag := true, fl := [(0, 5), (1, 5), (2, 2), (3, 3), (4, 22)], pl := [(0, 1), (1, 1), (2, 1), (3, 1), (4, 1)], ze := some (.agg #[.int .u8 0, .int .u8 0, .int .i64 0, .int .i64 0, .slice none 0 0]), by_ := 48, ro := some (.int .u8 (.int .u8 (.int .i64 (.int .i64 (.sl (.int .i64 .nil) .nil)))))}),
  (24, {kd := 1, sz := 5, ag := true, fl := [(0, 5), (1, 5), (2, 2), (3, 3), (4, 22)], pl := [(0, 1), (1, 1), (2, 1), (3, 1), (4, 1)], ze := some (.agg #[.int .u8 0, .int .u8 0, .int .i64 0, .int .i64 0, .slice none 0 0]), by_ := 48, ro := some (.int .u8 (.int .u8 (.int .i64 (.int .i64 (.sl (.int .i64 .nil) .nil)))))}),
  (25, {kd := 3, el := 28, ze := some (.slice none 0 0), by_ := 24, ro := some (.sl (.sl (.int .i64 (.int .i64 .nil)) .nil) .nil)}),
  (28, {kd := 3, el := 36, ze := some (.slice none 0 0), by_ := 24, ro := some (.sl (.int .i64 (.int .i64 .nil)) .nil)}),
  (29, {ze := some (.int .i64 0), eq := some [0], ik := some .i64, by_ := 8, ro := some (.int .i64 .nil)}),
  (35, {kd := 1, sz := 2, ag := true, fl := [(0, 2), (1, 2)], pl := [(0, 1), (1, 1)], ze := some (.agg #[.int .i64 0, .int .i64 0]), eq := some [0, 0], by_ := 16, ro := some (.int .i64 (.int .i64 .nil))}),
  (36, {kd := 1, sz := 2, ag := true, fl := [(0, 2), (1, 2)], pl := [(0, 1), (1, 1)], ze := some (.agg #[.int .i64 0, .int .i64 0]), eq := some [0, 0], by_ := 16, ro := some (.int .i64 (.int .i64 .nil))}),
  (38, {kd := 2, sz := 3, ag := true, ar := 3, el := 3, ze := some (.agg #[.int .i64 0, .int .i64 0, .int .i64 0]), eq := some [0, 0, 0], by_ := 24, ro := some (.int .i64 (.int .i64 (.int .i64 .nil)))}),
  (39, {kd := 1, sz := 5, ag := true, fl := [(0, 3), (1, 3), (2, 38)], pl := [(0, 1), (1, 1), (2, 3)], ze := some (.agg #[.int .i64 0, .int .i64 0, .int .i64 0, .int .i64 0, .int .i64 0]), eq := some [0, 0, 0, 0, 0], by_ := 40, ro := some (.int .i64 (.int .i64 (.int .i64 (.int .i64 (.int .i64 .nil)))))}),
  (40, {kd := 1, sz := 5, ag := true, fl := [(0, 3), (1, 3), (2, 38)], pl := [(0, 1), (1, 1), (2, 3)], ze := some (.agg #[.int .i64 0, .int .i64 0, .int .i64 0, .int .i64 0, .int .i64 0]), eq := some [0, 0, 0, 0, 0], by_ := 40, ro := some (.int .i64 (.int .i64 (.int .i64 (.int .i64 (.int .i64 .nil)))))}),
  (48, {kd := 3, el := 5, ze := some (.slice none 0 0), by_ := 24, ro := some (.sl (.int .u8 .nil) .nil)}),
  (49, {kd := 3, el := 25, ze := some (.slice none 0 0), by_ := 24, ro := some (.sl (.sl (.sl (.int .i64 (.int .i64 .nil)) .nil) .nil) .nil)}),
  (55, {kd := 3, el := 2, ze := some (.slice none 0 0), by_ := 24, ro := some (.sl (.int .i64 .nil) .nil)}),
  (61, {kd := 3, el := 24, ze := some (.slice none 0 0), by_ := 24, ro := some (.sl (.int .u8 (.int .u8 (.int .i64 (.int .i64 (.sl (.int .i64 .nil) .nil))))) .nil)}),
  (62, {kd := 3, el := 24, ze := some (.slice none 0 0), by_ := 24, ro := some (.sl (.int .u8 (.int .u8 (.int .i64 (.int .i64 (.sl (.int .i64 .nil) .nil))))) .nil)}),
  (65, {kd := 4, el := 64, ky := 5, fz := true, mv := some (false, false, .int .u8 .nil, .fn), ze := some (.map none), by_ := 8}),
  (77, {kd := 4, el := 2, ky := 2, mv := some (false, false, .int .i64 .nil, .el (.int .i64 .nil)), ze := some (.map none), by_ := 8}),
  (79, {kd := 4, el := 55, ky := 2, mv := some (false, false, .int .i64 .nil, .own (.int .i64 .nil) 2), ze := some (.map none), by_ := 8}),
  (87, {ze := some (.int .u64 0), eq := some [0], ik := some .u64, by_ := 8, ro := some (.int .u64 .nil)}),
  (90, {kd := 4, el := 73, ky := 5, fz := true, mv := some (false, false, .int .u8 .nil, .fn), ze := some (.map none), by_ := 8}),
  (104, {ze := some (.int .u32 0), eq := some [0], ik := some .u32, by_ := 4, ro := some (.int .u32 .nil)}),
  (106, {ze := some (.int .u64 0), eq := some [0], ik := some .u64, by_ := 8, ro := some (.int .u64 .nil)}),
  (113, {ze := some (.pointer none), by_ := 8}),
  (128, {ze := some (.pointer none), by_ := 8})]
theorem tys_ok : AllTy Try.prog tys := ⟨ty2, ty3, ty4, ty5, ty9, ty12, ty21, ty22, ty23, ty24, ty25, ty28, ty29, ty35, ty36, ty38, ty39, ty40, ty48, ty49, ty55, ty61, ty62, ty65, ty77, ty79, ty87, ty90, ty104, ty106, ty113, ty128, trivial⟩
theorem mixed : Try.prog.follows .mixedOrders = true := by kernel_rfl
end Go.Proofs.Ytgmbmpojcnmcgaa

/- Layer 12: how records are ordered. -/
namespace Go.Proofs.Ytgmbmpojcnmcgaa
set_option maxRecDepth 100000
open Go Go.RowKit Go.Sort Go.Proofs.Ytgmbmpojcnmcgaa.Eng
def k_nan : Sig := .arg shI fun x => .done { pre := True, res := B false }
theorem c_nan : FnOk Try.prog 92 k_nan.con := by
  refine fnOkS mixed tys_ok (cs := []) trivial Try.func92 rfl (by kernel_rfl) Try.ntmps92 _ (h := ?_)
  intro x
  refine ⟨rfl, fun _ => ?_⟩
  conv => whnf
  repeat' ((first
    | with_reducible first | refine ⟨fun h => h, ?_⟩ | refine ⟨pk1, ?_⟩ | refine ⟨pk2, ?_⟩ | refine ⟨pk3, ?_⟩ | refine ⟨pk4, ?_⟩ | refine ⟨pk5, ?_⟩ | refine ⟨pk6, ?_⟩ | refine ⟨trivial, ?_⟩ | refine ⟨fun _ => trivial, ?_⟩ | refine ⟨rfl, ?_⟩ | refine every_i (fun hd => ?_) | refine everyN_i (fun k hk => ?_) | refine everyD_i (fun d hd => ?_) | refine fork_t (by assumption) ?_ | refine fork_f (by assumption) ?_
    | refine fork_t rfl ?_
    | refine fork_f rfl ?_
    | with_reducible first | refine fork_i (fun h => ?_) (fun h => ?_) | refine both_i ?_ ?_
    | ((with_reducible refine alike_i ?_); exact ⟨rfl, rfl, rfl⟩)
    | ((with_reducible refine fin_i ?_); (conv => whnf); refine ⟨rfl, ?_⟩)
    | refine ⟨of_decide_eq_true rfl, ?_⟩
    | refine ⟨fun _ => of_decide_eq_true rfl, ?_⟩
    | ((with_reducible refine ⟨?_, ?_⟩); (focus (intros; simp_all; done)))
    | ((with_reducible refine ⟨?_, ?_⟩); (focus (intros; omega)))) <;> (try (conv => whnf)))
  all_goals ((with_reducible refine leaf_i ?_); (conv => whnf))
  repeat' ((with_reducible refine And.intro ?_ ?_) <;> (try (conv => whnf)))
  all_goals (try (first | with_reducible rfl | exact True.intro | rfl | exact id | exact fun h => h | exact fun _ => rfl))
  all_goals simp
def k_cmp : Sig := .arg shI fun x => .arg shI fun y => .done { pre := True, res := I (cmpI x y) }
theorem c_cmp : FnOk Try.prog 71 k_cmp.con := by
  refine fnOkS mixed tys_ok (cs := [(92, k_nan.con)]) ⟨c_nan, trivial⟩ Try.func71 rfl (by kernel_rfl) Try.ntmps71 _ (h := ?_)
  intro x y
  refine ⟨rfl, fun _ => ?_⟩
  conv => whnf
  repeat' ((first
    | with_reducible first | refine ⟨fun h => h, ?_⟩ | refine ⟨pk1, ?_⟩ | refine ⟨pk2, ?_⟩ | refine ⟨pk3, ?_⟩ | refine ⟨pk4, ?_⟩ | refine ⟨pk5, ?_⟩ | refine ⟨pk6, ?_⟩ | refine ⟨trivial, ?_⟩ | refine ⟨fun _ => trivial, ?_⟩ | refine ⟨rfl, ?_⟩ | refine every_i (fun hd => ?_) | refine everyN_i (fun k hk => ?_) | refine everyD_i (fun d hd => ?_) | refine fork_t (by assumption) ?_ | refine fork_f (by assumption) ?_
    | refine fork_t rfl ?_
    | refine fork_f rfl ?_
    | with_reducible first | refine fork_i (fun h => ?_) (fun h => ?_) | refine both_i ?_ ?_
    | ((with_reducible refine alike_i ?_); exact ⟨rfl, rfl, rfl⟩)
    | ((with_reducible refine fin_i ?_); (conv => whnf); refine ⟨rfl, ?_⟩)
    | refine ⟨of_decide_eq_true rfl, ?_⟩
    | refine ⟨fun _ => of_decide_eq_true rfl, ?_⟩
    | ((with_reducible refine ⟨?_, ?_⟩); (focus (intros; simp_all; done)))
    | ((with_reducible refine ⟨?_, ?_⟩); (focus (intros; omega)))) <;> (try (conv => whnf)))
  all_goals ((with_reducible refine leaf_i ?_); (conv => whnf))
  repeat' ((with_reducible refine And.intro ?_ ?_) <;> (try (conv => whnf)))
  all_goals (try (first | with_reducible rfl | exact True.intro | rfl | exact id | exact fun h => h | exact fun _ => rfl))
  all_goals (simp at *; unfold cmpI; repeat' split)
  all_goals first | rfl | omega
def k_or : Sig := .arg (shR tI') fun l => .done { pre := l.length < 4611686018427387904, res := I (orI l) }
theorem c_or : FnOk Try.prog 70 k_or.con := by
  refine fnOkS mixed tys_ok (cs := []) trivial Try.func70 rfl (by kernel_rfl) Try.ntmps70 _ (h := ?_)
  intro l
  refine ⟨rfl, fun hp => ?_⟩
  conv => whnf
  repeat' ((first
    | with_reducible first | refine ⟨fun h => h, ?_⟩ | refine ⟨pk1, ?_⟩ | refine ⟨pk2, ?_⟩ | refine ⟨pk3, ?_⟩ | refine ⟨pk4, ?_⟩ | refine ⟨pk5, ?_⟩ | refine ⟨pk6, ?_⟩ | refine ⟨trivial, ?_⟩ | refine ⟨fun _ => trivial, ?_⟩ | refine ⟨rfl, ?_⟩ | refine every_i (fun hd => ?_) | refine everyN_i (fun k hk => ?_) | refine everyD_i (fun d hd => ?_) | refine fork_t (by assumption) ?_ | refine fork_f (by assumption) ?_
    | refine fork_t rfl ?_
    | refine fork_f rfl ?_
    | with_reducible first | refine fork_i (fun h => ?_) (fun h => ?_) | refine both_i ?_ ?_
    | ((with_reducible refine alike_i ?_); exact ⟨rfl, rfl, rfl⟩)
    | ((with_reducible refine fin_i ?_); (conv => whnf); refine ⟨rfl, ?_⟩)
    | refine ⟨of_decide_eq_true rfl, ?_⟩
    | refine ⟨fun _ => of_decide_eq_true rfl, ?_⟩
    | ((with_reducible refine ⟨?_, ?_⟩); (focus (intros; simp_all; done)))
    | ((with_reducible refine ⟨?_, ?_⟩); (focus (intros; omega)))) <;> (try (conv => whnf)))
  refine looped (σ := Nat) (fun j => [(8, I j)]) (fun _ => []) (fun j => j ≤ l.length ∧ orI (l.drop j) = orI l) (fun j => l.length - j) 0 ⟨Nat.zero_le _, rfl⟩ ?_ ?_
  · conv => whnf
    refine ⟨rfl, leaf_i ?_⟩
    repeat' ((with_reducible refine And.intro ?_ ?_) <;> (try (conv => whnf)))
    all_goals (try (first | with_reducible rfl | exact True.intro | rfl | exact id | exact fun h => h | exact fun _ => rfl))
  · rintro j ⟨hj, hl⟩
    dsimp only at hj hl ⊢
    conv => whnf
    repeat' ((first
      | with_reducible first | refine ⟨fun h => h, ?_⟩ | refine ⟨pk1, ?_⟩ | refine ⟨pk2, ?_⟩ | refine ⟨pk3, ?_⟩ | refine ⟨pk4, ?_⟩ | refine ⟨pk5, ?_⟩ | refine ⟨pk6, ?_⟩ | refine ⟨trivial, ?_⟩ | refine ⟨fun _ => trivial, ?_⟩ | refine ⟨rfl, ?_⟩ | refine every_i (fun hd => ?_) | refine everyN_i (fun k hk => ?_) | refine everyD_i (fun d hd => ?_) | refine fork_t (by assumption) ?_ | refine fork_f (by assumption) ?_
      | refine fork_t rfl ?_
      | refine fork_f rfl ?_
      | with_reducible first | refine fork_i (fun h => ?_) (fun h => ?_) | refine both_i ?_ ?_
      | ((with_reducible refine alike_i ?_); exact ⟨rfl, rfl, rfl⟩)
      | ((with_reducible refine fin_i ?_); (conv => whnf); refine ⟨rfl, ?_⟩)
      | refine ⟨of_decide_eq_true rfl, ?_⟩
      | refine ⟨fun _ => of_decide_eq_true rfl, ?_⟩
      | ((with_reducible refine ⟨?_, ?_⟩); (focus (intros; simp_all; done)))
      | ((with_reducible refine ⟨?_, ?_⟩); (focus (intros; omega)))) <;> (try (conv => whnf)))
    · rename_i hj'
      have hj' := lt_t' hj'
      have h : ((getE tI' l j).1 != 0) = true := h
      rw [drop_get' _ hj', orI, if_neg (by simpa using h)] at hl
      all_goals ((with_reducible refine leaf_i ?_); (conv => whnf))
      repeat' ((with_reducible refine And.intro ?_ ?_) <;> (try (conv => whnf)))
      all_goals (try (first | with_reducible rfl | exact True.intro | rfl | exact id | exact fun h => h | exact fun _ => rfl))
      all_goals first | exact hl | rfl
    · rename_i hj'
      have hj' := lt_t' hj'
      have h : ((getE tI' l j).1 != 0) = false := h
      rw [drop_get' _ hj', orI, if_pos (by simpa using h)] at hl
      refine next_i (j + 1) ⟨hj', hl⟩ (by omega) rfl rfl ?_
      conv => whnf
      refine ⟨rfl, leaf_i ?_⟩
      repeat' ((with_reducible refine And.intro ?_ ?_) <;> (try (conv => whnf)))
      all_goals (try (first | with_reducible rfl | exact True.intro | rfl | exact id | exact fun h => h | exact fun _ => rfl))
      all_goals first | exact wrapS' (Nat.lt_trans hj' hp) | rfl
    · have hj' := lt_f' h
      rw [List.drop_eq_nil_of_le hj', orI] at hl
      all_goals ((with_reducible refine leaf_i ?_); (conv => whnf))
      repeat' ((with_reducible refine And.intro ?_ ?_) <;> (try (conv => whnf)))
      all_goals (try (first | with_reducible rfl | exact True.intro | rfl | exact id | exact fun h => h | exact fun _ => rfl))
      all_goals first | exact hl | rfl
theorem c_order : FnOk Try.prog 51 (cmpSig tR ordR).con := by
  refine fnOkS mixed tys_ok (cs := [(71, k_cmp.con), (70, k_or.con)]) ⟨c_cmp, c_or, trivial⟩ Try.func51 rfl (by kernel_rfl) Try.ntmps51 _ (h := ?_)
  intro x y
  refine ⟨rfl, fun hp => ?_⟩
  conv => whnf
  repeat' ((first
    | with_reducible first | refine ⟨fun h => h, ?_⟩ | refine ⟨pk1, ?_⟩ | refine ⟨pk2, ?_⟩ | refine ⟨pk3, ?_⟩ | refine ⟨pk4, ?_⟩ | refine ⟨pk5, ?_⟩ | refine ⟨pk6, ?_⟩ | refine ⟨trivial, ?_⟩ | refine ⟨fun _ => trivial, ?_⟩ | refine ⟨rfl, ?_⟩ | refine every_i (fun hd => ?_) | refine everyN_i (fun k hk => ?_) | refine everyD_i (fun d hd => ?_) | refine fork_t (by assumption) ?_ | refine fork_f (by assumption) ?_
    | refine fork_t rfl ?_
    | refine fork_f rfl ?_
    | with_reducible first | refine fork_i (fun h => ?_) (fun h => ?_) | refine both_i ?_ ?_
    | ((with_reducible refine alike_i ?_); exact ⟨rfl, rfl, rfl⟩)
    | ((with_reducible refine fin_i ?_); (conv => whnf); refine ⟨rfl, ?_⟩)
    | refine ⟨of_decide_eq_true rfl, ?_⟩
    | refine ⟨fun _ => of_decide_eq_true rfl, ?_⟩
    | ((with_reducible refine ⟨?_, ?_⟩); (focus (intros; simp_all; done)))
    | ((with_reducible refine ⟨?_, ?_⟩); (focus (intros; omega)))) <;> (try (conv => whnf)))
  all_goals ((with_reducible refine leaf_i ?_); (conv => whnf))
  repeat' ((with_reducible refine And.intro ?_ ?_) <;> (try (conv => whnf)))
  all_goals (try (first | with_reducible rfl | exact True.intro | rfl | exact id | exact fun h => h | exact fun _ => rfl))
  all_goals (first | rfl | trace_state)
theorem c_order' : FnOk Try.prog 62 (cmpSig tR ordR).con := by
  refine fnOkS mixed tys_ok (cs := []) trivial Try.func62 rfl (by kernel_rfl) Try.ntmps62 _ (h := ?_)
  rintro ⟨a1, a2, _⟩ ⟨b1, b2, _⟩
  refine ⟨rfl, fun hp => ?_⟩
  conv => whnf
  repeat' ((first
    | with_reducible first | refine ⟨fun h => h, ?_⟩ | refine ⟨pk1, ?_⟩ | refine ⟨pk2, ?_⟩ | refine ⟨pk3, ?_⟩ | refine ⟨pk4, ?_⟩ | refine ⟨pk5, ?_⟩ | refine ⟨pk6, ?_⟩ | refine ⟨trivial, ?_⟩ | refine ⟨fun _ => trivial, ?_⟩ | refine ⟨rfl, ?_⟩ | refine every_i (fun hd => ?_) | refine everyN_i (fun k hk => ?_) | refine everyD_i (fun d hd => ?_) | refine fork_t (by assumption) ?_ | refine fork_f (by assumption) ?_
    | refine fork_t rfl ?_
    | refine fork_f rfl ?_
    | with_reducible first | refine fork_i (fun h => ?_) (fun h => ?_) | refine both_i ?_ ?_
    | ((with_reducible refine alike_i ?_); exact ⟨rfl, rfl, rfl⟩)
    | ((with_reducible refine fin_i ?_); (conv => whnf); refine ⟨rfl, ?_⟩)
    | refine ⟨of_decide_eq_true rfl, ?_⟩
    | refine ⟨fun _ => of_decide_eq_true rfl, ?_⟩
    | ((with_reducible refine ⟨?_, ?_⟩); (focus (intros; simp_all; done)))
    | ((with_reducible refine ⟨?_, ?_⟩); (focus (intros; omega)))) <;> (try (conv => whnf)))
  all_goals ((with_reducible refine leaf_i ?_); (conv => whnf))
  repeat' ((with_reducible refine And.intro ?_ ?_) <;> (try (conv => whnf)))
  all_goals (try (first | with_reducible rfl | exact True.intro | rfl | exact id | exact fun h => h | exact fun _ => rfl))
  all_goals (simp [ordR, orI, cmpI] at *)
  all_goals (first | (repeat' split <;> first | rfl | omega) | trace_state)
end Go.Proofs.Ytgmbmpojcnmcgaa

/- The sort, laid at the seat's program. -/
namespace Go.Proofs.Ytgmbmpojcnmcgaa
open Go Go.Shelf Go.RowKit Go.Proofs
shelf_lay_g SlLaysF0.n6 Slsf 6 at Try 50 as sortLay
end Go.Proofs.Ytgmbmpojcnmcgaa

/- Layer 12: rows put together and sorted. -/
namespace Go.Proofs.Ytgmbmpojcnmcgaa
set_option maxRecDepth 100000
open Go Go.RowKit Go.Sort Go.Shelf Go.Proofs.Ytgmbmpojcnmcgaa.Eng
theorem isAgg_of {P : Program} {t : TypeId} {i : TI} (hi : TIok P t i) (h : i.ag = true) (w : World) : (isAgg t).run P w = .ok true w := by
  have hu := hi.ag
  cases hq : P.underlying t with
  | none => simp [hq] at hu
  | some d =>
    have : d.isRow = true := by simpa [hq, h] using hu
    unfold isAgg
    rw [Sem.run_bind, run_underlying hq w]
    cases d <;> simp_all [TypeDesc.isRow]
theorem c_sort : FnOk Try.prog 50 (sortSig tR 36 51 srtR).con := by
  obtain ⟨i, hi⟩ : ∃ i, tyOf tys 36 = some i := ⟨_, rfl⟩
  have hT := allTy_ok tys tys_ok _ i hi
  have ha : i.ag = true := by injection hi with hi; subst hi; rfl
  have hz : i.sz = tsz tR := by injection hi with hi; subst hi; rfl
  refine fnOk_sort sortLay rfl 36 (isAgg_of hT ha) (fun w => by have := Eng.run_sizeOf hT w; rw [hz] at this; exact this) 51 ordR ordR_swo ordR_parts (fun args w => rfl) c_order rfl ⟨_, Try.func50, by kernel_rfl, ?_⟩
  decide +kernel
end Go.Proofs.Ytgmbmpojcnmcgaa

/- Graphs in plain Lean: what layer 9 answers. No program in sight. -/
namespace Go.Proofs.Ytgmbmpojcnmcgaa
open Go Go.Proofs.Ytgmbmpojcnmcgaa.Eng
abbrev tI : Ty := .int .i64 .nil
abbrev tU : Ty := .int .u8 .nil
abbrev tN : Ty := .int .u8 (.int .u8 (.int .i64 (.int .i64 (.sl tI .nil))))
abbrev tP : Ty := .int .i64 (.int .i64 .nil)
abbrev Nd := El tN
def Nd.kind (n : Nd) : Int := n.1
def Nd.a (n : Nd) : Int := n.2.1
def Nd.b (n : Nd) : Int := n.2.2.1
def Nd.dep (n : Nd) : Int := n.2.2.2.1
def Nd.ins (n : Nd) : List (El tI) := n.2.2.2.2.1
def toIn (n i : Int) : Int → List (El tI) → List (El tP)
  | _, [] => []
  | k, x :: r => if x.1 = i then (n, k, ()) :: toIn n i (k + 1) r else toIn n i (k + 1) r
def toOut (i : Int) : Int → List Nd → List (El tP)
  | _, [] => []
  | n, x :: r => toIn n i 0 x.ins ++ toOut i (n + 1) r
def toG (g : List Nd) (i : Int) : List (El tP) := toOut i 0 g
def insG (g : List Nd) (top : Int) : Bool := decide ((g.length : Int) ≤ top) && g.all fun n => decide ((n.ins.length : Int) ≤ top)
def ndC (q : Bool) (n : Nd) : AV := .cons (.v (.int .u8 n.1)) (.cons (.v (.int .u8 n.2.1)) (.cons (.v (.int .i64 n.2.2.1)) (.cons (.v (.int .i64 n.2.2.2.1)) (.cons (.rl q tI n.2.2.2.2.1) .nil))))
theorem lt_t {j n : Nat} (h : decide ((j : Int) < (n : Int)) = true) : j < n := Int.ofNat_lt.1 (of_decide_eq_true h)
theorem lt_f {j n : Nat} (h : decide ((j : Int) < (n : Int)) = false) : n ≤ j := Nat.le_of_not_lt fun hh => of_decide_eq_false h (Int.ofNat_lt.2 hh)
theorem wrapS {j : Nat} (h : j < 4611686018427387904) : IntKind.i64.wrap ((j : Int) + 1) = ((j + 1 : Nat) : Int) := by
  rw [IntKind.wrap_i64]; omega
abbrev u8 (x : Int) : El tU := (IntKind.u8.wrap x, ())
theorem wrapI {x : Int} (h1 : -9223372036854775808 ≤ x) (h2 : x ≤ 9223372036854775807) : IntKind.i64.wrap x = x := by
  rw [IntKind.wrap_i64]; omega
theorem toIn_len (n i : Int) : ∀ (k : Int) (l : List (El tI)), (toIn n i k l).length ≤ l.length
  | _, [] => Nat.le_refl _
  | k, x :: r => by
    have := toIn_len n i (k + 1) r
    simp only [toIn]
    split <;> simp <;> omega
theorem toOut_len (i : Int) {m : Nat} : ∀ (n : Int) (g : List Nd), (∀ x ∈ g, x.ins.length ≤ m) → (toOut i n g).length ≤ g.length * m
  | _, [], _ => Nat.zero_le _
  | n, x :: r, h => by
    have h1 := toIn_len n i 0 x.ins
    have h2 := h x (by simp)
    have h3 := toOut_len i (n + 1) r fun y hy => h y (by simp [hy])
    simp only [toOut, List.length_append, List.length_cons, Nat.add_mul]
    omega
theorem drop_get {t : Ty} (l : List (El t)) {j : Nat} (h : j < l.length) : l.drop j = getE t l j :: l.drop (j + 1) := by
  rw [List.drop_eq_getElem_cons h]
  congr 1
  unfold getE
  simp [List.getD, h]
theorem getE_mem {t : Ty} (l : List (El t)) {j : Nat} (h : j < l.length) : getE t l j ∈ l := by
  have := getE_ok h
  exact List.mem_of_getElem? this
end Go.Proofs.Ytgmbmpojcnmcgaa

/- Layer 12: are two rows the same? (The document's Alike.) -/
namespace Go.Proofs.Ytgmbmpojcnmcgaa
set_option maxRecDepth 100000
open Go Go.RowKit Go.Proofs.Ytgmbmpojcnmcgaa.Eng
def eq1 (x y : Rec) : Bool := x.1 == y.1 && (x.2.1 == y.2.1 && true)
theorem eq1_iff (x y : Rec) : eq1 x y = true ↔ x = y := by
  obtain ⟨a1, a2, _⟩ := x
  obtain ⟨b1, b2, _⟩ := y
  simp [eq1]
def sameR : List Rec → List Rec → Bool
  | [], [] => true
  | x :: r, y :: s => eq1 x y && sameR r s
  | _, _ => false
theorem sameR_iff : ∀ (a b : List Rec), sameR a b = true ↔ a = b
  | [], [] => by simp [sameR]
  | [], _ :: _ => by simp [sameR]
  | _ :: _, [] => by simp [sameR]
  | x :: r, y :: s => by simp [sameR, eq1_iff, sameR_iff r s]
theorem sameR_len {a b : List Rec} (h : a.length ≠ b.length) : sameR a b = false := by
  rw [Bool.eq_false_iff, ne_eq, sameR_iff]; rintro rfl; exact h rfl
def k_same : Sig := .arg (shR tR) fun a => .arg (shR tR) fun b => .done { pre := a.length < 4611686018427387904, res := B (sameR a b) }
set_option maxHeartbeats 4000000 in
theorem c_same : FnOk Try.prog 16 k_same.con := by
  refine fnOkS mixed tys_ok (cs := []) trivial Try.func16 rfl (by kernel_rfl) Try.ntmps16 _ (h := ?_)
  intro l m
  refine ⟨rfl, fun hp => ?_⟩
  have hp' : l.length < 4611686018427387904 := hp
  conv => whnf
  repeat' ((first
    | with_reducible first | refine ⟨fun h => h, ?_⟩ | refine ⟨pk1, ?_⟩ | refine ⟨pk2, ?_⟩ | refine ⟨pk3, ?_⟩ | refine ⟨pk4, ?_⟩ | refine ⟨pk5, ?_⟩ | refine ⟨pk6, ?_⟩ | refine ⟨trivial, ?_⟩ | refine ⟨fun _ => trivial, ?_⟩ | refine ⟨rfl, ?_⟩ | refine every_i (fun hd => ?_) | refine everyN_i (fun k hk => ?_) | refine everyD_i (fun d hd => ?_) | refine fork_t (by assumption) ?_ | refine fork_f (by assumption) ?_
    | refine fork_t rfl ?_
    | refine fork_f rfl ?_
    | with_reducible first | refine fork_i (fun h => ?_) (fun h => ?_) | refine both_i ?_ ?_
    | ((with_reducible refine alike_i ?_); exact ⟨rfl, rfl, rfl⟩)
    | ((with_reducible refine fin_i ?_); (conv => whnf); refine ⟨rfl, ?_⟩)
    | refine ⟨of_decide_eq_true rfl, ?_⟩
    | refine ⟨fun _ => of_decide_eq_true rfl, ?_⟩
    | ((with_reducible refine ⟨?_, ?_⟩); (focus (intros; simp_all; done)))
    | ((with_reducible refine ⟨?_, ?_⟩); (focus (intros; omega)))) <;> (try (conv => whnf)))
  · have hn : l.length ≠ m.length := by
      intro e
      have h : ((l.length : Int) != (m.length : Int)) = true := h
      rw [e] at h; simp at h
    all_goals ((with_reducible refine leaf_i ?_); (conv => whnf))
    repeat' ((with_reducible refine And.intro ?_ ?_) <;> (try (conv => whnf)))
    all_goals (try (first | with_reducible rfl | exact True.intro | rfl | exact id | exact fun h => h | exact fun _ => rfl))
    all_goals (rw [sameR_len hn])
  · have hn : l.length = m.length := by
      have h : ((l.length : Int) != (m.length : Int)) = false := h
      have h2 : (l.length : Int) = m.length := by simpa using h
      omega
    refine looped (σ := Nat) (fun j => [(5, I j)]) (fun _ => []) (fun j => j ≤ l.length ∧ sameR (l.drop j) (m.drop j) = sameR l m) (fun j => l.length - j) 0 ⟨Nat.zero_le _, rfl⟩ ?_ ?_
    · conv => whnf
      refine ⟨rfl, leaf_i ?_⟩
      repeat' ((with_reducible refine And.intro ?_ ?_) <;> (try (conv => whnf)))
      all_goals (try (first | with_reducible rfl | exact True.intro | rfl | exact id | exact fun h => h | exact fun _ => rfl))
    · rintro j ⟨hj, hl⟩
      dsimp only at hj hl ⊢
      have hi : decide ((j : Int) < (l.length : Int)) = true → 0 ≤ (j : Int) ∧ (j : Int) < (m.length : Int) := fun h => by have := lt_t' h; omega
      conv => whnf
      repeat' ((first
        | with_reducible first | refine ⟨fun h => h, ?_⟩ | refine ⟨pk1, ?_⟩ | refine ⟨pk2, ?_⟩ | refine ⟨pk3, ?_⟩ | refine ⟨pk4, ?_⟩ | refine ⟨pk5, ?_⟩ | refine ⟨pk6, ?_⟩ | refine ⟨trivial, ?_⟩ | refine ⟨fun _ => trivial, ?_⟩ | refine ⟨rfl, ?_⟩ | refine every_i (fun hd => ?_) | refine everyN_i (fun k hk => ?_) | refine everyD_i (fun d hd => ?_) | refine fork_t (by assumption) ?_ | refine fork_f (by assumption) ?_
        | refine fork_t rfl ?_
        | refine fork_f rfl ?_
        | with_reducible first | refine fork_i (fun h => ?_) (fun h => ?_) | refine both_i ?_ ?_
        | ((with_reducible refine alike_i ?_); exact ⟨rfl, rfl, rfl⟩)
        | ((with_reducible refine fin_i ?_); (conv => whnf); refine ⟨rfl, ?_⟩)
        | refine ⟨hi (by assumption), ?_⟩
        | refine ⟨of_decide_eq_true rfl, ?_⟩
        | refine ⟨fun _ => of_decide_eq_true rfl, ?_⟩
        | ((with_reducible refine ⟨?_, ?_⟩); (focus (intros; simp_all; done)))
        | ((with_reducible refine ⟨?_, ?_⟩); (focus (intros; omega)))) <;> (try (conv => whnf)))
      · have hj' : j < l.length := lt_t' (by assumption)
        have hx : eq1 (getE tR l j) (getE tR m j) = false := by
          have h : (!eq1 (getE tR l j) (getE tR m j)) = true := h
          simpa using h
        rw [drop_get' _ hj', drop_get' _ (show j < m.length by omega), sameR, hx, Bool.false_and] at hl
        all_goals ((with_reducible refine leaf_i ?_); (conv => whnf))
        repeat' ((with_reducible refine And.intro ?_ ?_) <;> (try (conv => whnf)))
        all_goals (try (first | with_reducible rfl | exact True.intro | rfl | exact id | exact fun h => h | exact fun _ => rfl))
        all_goals (rw [← hl])
      · have hj' : j < l.length := lt_t' (by assumption)
        have hx : eq1 (getE tR l j) (getE tR m j) = true := by
          have h : (!eq1 (getE tR l j) (getE tR m j)) = false := h
          simpa using h
        rw [drop_get' _ hj', drop_get' _ (show j < m.length by omega), sameR, hx, Bool.true_and] at hl
        refine next_i (j + 1) ⟨hj', hl⟩ (by omega) rfl rfl ?_
        conv => whnf
        refine ⟨rfl, leaf_i ?_⟩
        repeat' ((with_reducible refine And.intro ?_ ?_) <;> (try (conv => whnf)))
        all_goals (try (first | with_reducible rfl | exact True.intro | rfl | exact id | exact fun h => h | exact fun _ => rfl))
        all_goals first | exact wrapS' (by omega) | rfl | trace_state
      · have hj' : l.length ≤ j := lt_f' (by assumption)
        rw [List.drop_eq_nil_of_le hj', List.drop_eq_nil_of_le (show m.length ≤ j by omega), sameR] at hl
        all_goals ((with_reducible refine leaf_i ?_); (conv => whnf))
        repeat' ((with_reducible refine And.intro ?_ ?_) <;> (try (conv => whnf)))
        all_goals (try (first | with_reducible rfl | exact True.intro | rfl | exact id | exact fun h => h | exact fun _ => rfl))
        all_goals (rw [← hl])
end Go.Proofs.Ytgmbmpojcnmcgaa

/- May a node be written: in plain Lean. No program in sight. -/
namespace Go.Proofs.Ytgmbmpojcnmcgaa
open Go Go.Proofs.Ytgmbmpojcnmcgaa.Eng
def wrongI (x : Int) : Bool := decide (x < 0) || decide (32 ≤ x)
def idxW : Int → List (El tI) → Int
  | _, [] => -1
  | n, x :: r => if wrongI x.1 then n else idxW (n + 1) r
def hasW (l : List (El tI)) : Bool := decide (idxW 0 l ≥ 0)
def mayN (n : Nd) : Bool := decide (n.dep ≥ 0) && decide (n.dep ≤ 3) && decide ((n.ins.length : Int) ≤ 2) && !hasW n.ins
theorem may_len {n : Nd} (h : mayN n = true) : (Nd.ins n).length ≤ 2 := by
  simp only [mayN, Bool.and_eq_true] at h
  have := of_decide_eq_true h.1.2
  omega
theorem idxW_ge : ∀ (l : List (El tI)) (n : Int), 0 ≤ n → (idxW n l ≥ 0 ↔ l.any (fun x => wrongI x.1) = true)
  | [], n, h => by simp [idxW]
  | x :: r, n, h => by
    simp only [idxW, List.any_cons, Bool.or_eq_true]
    by_cases hx : wrongI x.1 = true
    · simp [hx, h]
    · rw [if_neg hx]; have := idxW_ge r (n + 1) (by omega); simp [hx, this]
theorem hasW_eq (l : List (El tI)) : hasW l = l.any fun x => wrongI x.1 := by
  unfold hasW
  have := idxW_ge l 0 (by omega)
  cases h : l.any (fun x => wrongI x.1) with
  | true => exact decide_eq_true (this.2 h)
  | false => exact decide_eq_false fun hh => by rw [this.1 hh] at h; cases h
end Go.Proofs.Ytgmbmpojcnmcgaa

/- Which graphs are the same; which may be written: in plain Lean. No program in sight. -/
namespace Go.Proofs.Ytgmbmpojcnmcgaa
open Go Go.Proofs.Ytgmbmpojcnmcgaa.Eng
def eqI : List (El tI) → List (El tI) → Bool
  | [], [] => true
  | x :: r, y :: s => (x.1 == y.1) && eqI r s
  | _, _ => false
theorem eqI_iff : ∀ (l m : List (El tI)), eqI l m = true ↔ l = m
  | [], [] => by simp [eqI]
  | x :: r, y :: s => by
    obtain ⟨a, ⟨⟩⟩ := x
    obtain ⟨b, ⟨⟩⟩ := y
    simp only [eqI, Bool.and_eq_true, List.cons.injEq, eqI_iff r s, beq_iff_eq, Prod.mk.injEq, and_true]
  | [], y :: s => by simp [eqI]
  | x :: r, [] => by simp [eqI]
def eqN (x y : Nd) : Bool := (x.1 == y.1) && ((x.2.1 == y.2.1) && ((x.2.2.1 == y.2.2.1) && ((x.2.2.2.1 == y.2.2.2.1) && eqI x.2.2.2.2.1 y.2.2.2.2.1)))
theorem eqN_iff (x y : Nd) : eqN x y = true ↔ x = y := by
  obtain ⟨a, b, c, d, l, ⟨⟩⟩ := x
  obtain ⟨a', b', c', d', l', ⟨⟩⟩ := y
  simp only [eqN, Bool.and_eq_true, eqI_iff, beq_iff_eq, Prod.mk.injEq, and_true]
def eqG : List Nd → List Nd → Bool
  | [], [] => true
  | x :: r, y :: s => eqN x y && eqG r s
  | _, _ => false
theorem eqG_iff : ∀ (l m : List Nd), eqG l m = true ↔ l = m
  | [], [] => by simp [eqG]
  | x :: r, y :: s => by simp only [eqG, Bool.and_eq_true, List.cons.injEq, eqG_iff r s, eqN_iff]
  | [], y :: s => by simp [eqG]
  | x :: r, [] => by simp [eqG]
theorem eqI_len {l m : List (El tI)} (h : l.length ≠ m.length) : eqI l m = false := by
  cases e : eqI l m with
  | false => rfl
  | true => rw [eqI_iff] at e; rw [e] at h; exact absurd rfl h
theorem eqG_len {l m : List Nd} (h : l.length ≠ m.length) : eqG l m = false := by
  cases e : eqG l m with
  | false => rfl
  | true => rw [eqG_iff] at e; rw [e] at h; exact absurd rfl h
theorem eqN_len {x y : Nd} (h : (Nd.ins x).length ≠ (Nd.ins y).length) : eqN x y = false := by
  cases e : eqN x y with
  | false => rfl
  | true => rw [eqN_iff] at e; rw [e] at h; exact absurd rfl h
theorem bne_t {a b : Int} (h : (a != b) = true) : a ≠ b := fun e => by rw [e] at h; simp at h
theorem bne_f {a b : Int} (h : (a != b) = false) : a = b := by simpa using h
theorem beq_t {a b : Int} (h : (a == b) = true) : a = b := eq_of_beq h
theorem beq_f {a b : Int} (h : (a == b) = false) : a ≠ b := ne_of_beq_false h
theorem bnl_t {a b : Nat} (h : ((a : Int) != (b : Int)) = true) : a ≠ b := fun e => bne_t h (by rw [e])
theorem bnl_f {a b : Nat} (h : ((a : Int) != (b : Int)) = false) : a = b := by have := bne_f h; omega
theorem not_t {b : Bool} (h : (!b) = true) : b = false := by simpa using h
theorem not_f {b : Bool} (h : (!b) = false) : b = true := by simpa using h
theorem eqI_step {l m : List (El tI)} {j : Nat} (h1 : j < l.length) (h2 : j < m.length) : eqI (l.drop j) (m.drop j) = (((getE tI l j).1 == (getE tI m j).1) && eqI (l.drop (j + 1)) (m.drop (j + 1))) := by
  rw [drop_get l h1, drop_get m h2]; rfl
theorem eqI_end {l m : List (El tI)} {j : Nat} (h1 : l.length ≤ j) (h2 : m.length ≤ j) : eqI (l.drop j) (m.drop j) = true := by
  rw [List.drop_eq_nil_of_le h1, List.drop_eq_nil_of_le h2]; rfl
theorem eqG_step {l m : List Nd} {j : Nat} (h1 : j < l.length) (h2 : j < m.length) : eqG (l.drop j) (m.drop j) = (eqN (getE tN l j) (getE tN m j) && eqG (l.drop (j + 1)) (m.drop (j + 1))) := by
  rw [drop_get l h1, drop_get m h2]; rfl
theorem eqG_end {l m : List Nd} {j : Nat} (h1 : l.length ≤ j) (h2 : m.length ≤ j) : eqG (l.drop j) (m.drop j) = true := by
  rw [List.drop_eq_nil_of_le h1, List.drop_eq_nil_of_le h2]; rfl
def neH (x y : Nd) : Bool := bif bif bif bif x.1 != y.1 then true else x.2.1 != y.2.1 then true else x.2.2.1 != y.2.2.1 then true else x.2.2.2.1 != y.2.2.2.1 then true else ((x.2.2.2.2.1.length : Int) != (y.2.2.2.2.1.length : Int))
theorem neH_t {x y : Nd} (h : neH x y = true) : eqN x y = false := by
  cases e : eqN x y with
  | false => rfl
  | true =>
    rw [eqN_iff] at e
    subst e
    simp [neH] at h
theorem neH_f {x y : Nd} (h : neH x y = false) : eqN x y = eqI (Nd.ins x) (Nd.ins y) ∧ (Nd.ins x).length = (Nd.ins y).length := by
  simp only [neH, Bool.cond_true_left, Bool.or_eq_false_iff] at h
  obtain ⟨⟨⟨⟨h1, h2⟩, h3⟩, h4⟩, h5⟩ := h
  refine ⟨?_, bnl_f h5⟩
  unfold eqN
  rw [beq_iff_eq.2 (bne_f h1), beq_iff_eq.2 (bne_f h2), beq_iff_eq.2 (bne_f h3), beq_iff_eq.2 (bne_f h4)]
  rfl
def mayG (g : List Nd) : Bool := g.all mayN && (decide (1 ≤ (g.length : Int)) && decide ((g.length : Int) ≤ 32))
theorem wr_eq (x : Int) : (bif decide (x < 0) then true else decide (x > 31)) = wrongI x := by
  unfold wrongI
  rw [Bool.cond_true_left]
  rfl
def maH (n : Nd) : Bool := bif bif decide (n.2.2.2.1 < 0) then true else decide (n.2.2.2.1 > 3) then true else decide ((n.2.2.2.2.1.length : Int) > 2)
theorem maH_t {n : Nd} (h : maH n = true) : mayN n = false := by
  simp only [maH, Bool.cond_true_left, Bool.or_eq_true] at h
  unfold mayN Nd.dep Nd.ins
  rcases h with (h | h) | h <;> have h := of_decide_eq_true h
  · rw [decide_eq_false (by omega)]; rfl
  · rw [decide_eq_false (p := _ ≤ 3) (by omega), Bool.and_false]; rfl
  · rw [decide_eq_false (p := _ ≤ 2) (by omega), Bool.and_false]; rfl
theorem maH_f {n : Nd} (h : maH n = false) : mayN n = !(Nd.ins n).any fun x => wrongI x.1 := by
  simp only [maH, Bool.cond_true_left, Bool.or_eq_false_iff] at h
  obtain ⟨⟨h1, h2⟩, h3⟩ := h
  have h1 := of_decide_eq_false h1
  have h2 := of_decide_eq_false h2
  have h3 := of_decide_eq_false h3
  unfold mayN Nd.dep Nd.ins
  rw [hasW_eq, decide_eq_true (p := _ ≥ 0) (by omega), decide_eq_true (p := _ ≤ 3) (by omega), decide_eq_true (p := _ ≤ 2) (by omega)]
  rfl
theorem insG_spec {g : List Nd} {top : Int} (h : insG g top = true) : (g.length : Int) ≤ top ∧ ∀ n ∈ g, ((Nd.ins n).length : Int) ≤ top := by
  unfold insG at h
  rw [Bool.and_eq_true] at h
  refine ⟨of_decide_eq_true h.1, fun n hn => ?_⟩
  exact of_decide_eq_true (List.all_eq_true.1 h.2 n hn)
theorem wr_any {l : List (El tI)} {k : Nat} (hk : k < l.length) (h : (bif decide ((getE tI l k).1 < 0) then true else decide ((getE tI l k).1 > 31)) = true) (hi : ((l.drop k).any fun x => wrongI x.1) = l.any fun x => wrongI x.1) : (l.any fun x => wrongI x.1) = true := by
  rw [wr_eq] at h
  rw [← hi, drop_get _ hk, List.any_cons, h, Bool.true_or]
theorem take_get {t : Ty} (l : List (El t)) {j : Nat} (h : j < l.length) : l.take (j + 1) = l.take j ++ [getE t l j] := by
  rw [List.take_succ_eq_append_getElem h]
  congr 2
  unfold getE
  simp [List.getD, h]
def pick (i n : Int) : Int := if n ≤ 0 then 0 else (IntKind.i64.wrap (i.tmod n + n)).tmod n
end Go.Proofs.Ytgmbmpojcnmcgaa

/- Layer 12: rows put together and sorted: Grow, Concat, Add, Sorted; what all other kinds do. -/
namespace Go.Proofs.Ytgmbmpojcnmcgaa
set_option maxRecDepth 100000
open Go Go.RowKit Go.Sort Go.Proofs.Ytgmbmpojcnmcgaa.Eng
abbrev tRR : Ty := .sl tR .nil
def catR (l : List (El tRR)) : List Rec := l.flatMap fun x => x.1
theorem catR_take {l : List (El tRR)} {j : Nat} (h : j < l.length) : catR (l.take (j + 1)) = catR (l.take j) ++ (getE tRR l j).1 := by
  rw [take_get l h]; simp [catR]
theorem catR_step {l : List (El tRR)} {j : Nat} (h : j < l.length) : (catR (l.take j)).length + (getE tRR l (j : Int).toNat).1.length ≤ (catR l).length := by
  have h1 : (catR (l.take (j + 1))).length ≤ (catR l).length := by
    have e := List.take_append_drop (j + 1) l
    have h : catR l = catR (l.take (j + 1)) ++ catR (l.drop (j + 1)) := by
      unfold catR
      rw [← List.flatMap_append, e]
    rw [h, List.length_append]; omega
  rw [catR_take h, List.length_append] at h1
  exact h1
theorem catR_le {l : List (El tRR)} (j : Nat) : (catR (l.take j)).length ≤ (catR l).length := by
  have h : catR l = catR (l.take j) ++ catR (l.drop j) := by
    have e := List.take_append_drop j l
    unfold catR
    rw [← List.flatMap_append, e]
  rw [h, List.length_append]; omega
def shNil' : Sh Unit := ⟨fun | .v (.slice none 0 0) => some () | _ => none, fun _ => .v (.slice none 0 0), fun v x h c vs hs => by
  split at h
  · exact hs
  · cases h⟩
def k_grow : Sig := .arg shNil' fun _ => .arg shI fun n => .done { pre := 0 ≤ n ∧ n ≤ 1000000000, res := .ow 0 2 0, new := [.row true tR 36 []] }
theorem c_grow : FnOk Try.prog 67 k_grow.con := by
  refine fnOkS mixed tys_ok (cs := []) trivial Try.func67 rfl (by kernel_rfl) Try.ntmps67 _ (h := ?_)
  intro u n
  refine ⟨rfl, fun hp => ?_⟩
  obtain ⟨hp1, hp2⟩ := hp
  have hw : IntKind.i64.wrap (n - IntKind.i64.wrap (((0 : Nat) : Int) - ((0 : Nat) : Int))) = n := by
    rw [show IntKind.i64.wrap (((0 : Nat) : Int) - ((0 : Nat) : Int)) = 0 from by decide, IntKind.wrap_i64]; omega
  conv => whnf
  repeat' ((first
    | with_reducible first | refine ⟨fun h => h, ?_⟩ | refine ⟨pk1, ?_⟩ | refine ⟨pk2, ?_⟩ | refine ⟨pk3, ?_⟩ | refine ⟨pk4, ?_⟩ | refine ⟨pk5, ?_⟩ | refine ⟨pk6, ?_⟩ | refine ⟨trivial, ?_⟩ | refine ⟨fun _ => trivial, ?_⟩ | refine ⟨rfl, ?_⟩ | refine every_i (fun hd => ?_) | refine everyN_i (fun k hk => ?_) | refine everyD_i (fun d hd => ?_) | refine fork_t (by assumption) ?_ | refine fork_f (by assumption) ?_
    | refine fork_t rfl ?_
    | refine fork_f rfl ?_
    | with_reducible first | refine fork_i (fun h => ?_) (fun h => ?_) | refine both_i ?_ ?_
    | ((with_reducible refine alike_i ?_); exact ⟨rfl, rfl, rfl⟩)
    | ((with_reducible refine fin_i ?_); (conv => whnf); refine ⟨rfl, ?_⟩)
    | refine ⟨of_decide_eq_true rfl, ?_⟩
    | refine ⟨fun _ => of_decide_eq_true rfl, ?_⟩
    | ((with_reducible refine ⟨?_, ?_⟩); (focus (intros; simp_all; done)))
    | ((with_reducible refine ⟨?_, ?_⟩); (focus (intros; omega)))) <;> (try (conv => whnf)))
  · exfalso; have := of_decide_eq_true h; omega
  · have hb : 0 ≤ IntKind.i64.wrap (n - IntKind.i64.wrap (((0 : Nat) : Int) - ((0 : Nat) : Int))) ∧ (List.replicate (IntKind.i64.wrap (n - IntKind.i64.wrap (((0 : Nat) : Int) - ((0 : Nat) : Int)))).toNat (zeroE tR)).length ≤ 1000000000 := by
      rw [hw]; refine ⟨hp1, ?_⟩; rw [List.length_replicate]; omega
    all_goals ((with_reducible refine leaf_i ?_); (conv => whnf))
    repeat' ((with_reducible refine And.intro ?_ ?_) <;> (try (conv => whnf)))
    all_goals (try (first | with_reducible rfl | exact True.intro | rfl | exact id | exact fun h => h | exact fun _ => rfl))
  · all_goals ((with_reducible refine leaf_i ?_); (conv => whnf))
    repeat' ((with_reducible refine And.intro ?_ ?_) <;> (try (conv => whnf)))
    all_goals (try (first | with_reducible rfl | exact True.intro | rfl | exact id | exact fun h => h | exact fun _ => rfl))
    all_goals trace_state
def k_concat : Sig := .arg (shR tRR) fun l => .done { pre := l.length < 4611686018427387904 ∧ (catR l).length ≤ 1000000000, res := .ow 0 2 (catR l).length, new := [.row true tR 36 (catR l)] }
theorem c_concat : FnOk Try.prog 49 k_concat.con := by
  refine fnOkS mixed tys_ok (cs := [(67, k_grow.con)]) ⟨c_grow, trivial⟩ Try.func49 rfl (by kernel_rfl) Try.ntmps49 _ (h := ?_)
  intro l
  refine ⟨rfl, fun hp => ?_⟩
  obtain ⟨hp1, hp2⟩ := hp
  conv => whnf
  repeat' ((first
    | with_reducible first | refine ⟨fun h => h, ?_⟩ | refine ⟨pk1, ?_⟩ | refine ⟨pk2, ?_⟩ | refine ⟨pk3, ?_⟩ | refine ⟨pk4, ?_⟩ | refine ⟨pk5, ?_⟩ | refine ⟨pk6, ?_⟩ | refine ⟨trivial, ?_⟩ | refine ⟨fun _ => trivial, ?_⟩ | refine ⟨rfl, ?_⟩ | refine every_i (fun hd => ?_) | refine everyN_i (fun k hk => ?_) | refine everyD_i (fun d hd => ?_) | refine fork_t (by assumption) ?_ | refine fork_f (by assumption) ?_
    | refine fork_t rfl ?_
    | refine fork_f rfl ?_
    | with_reducible first | refine fork_i (fun h => ?_) (fun h => ?_) | refine both_i ?_ ?_
    | ((with_reducible refine alike_i ?_); exact ⟨rfl, rfl, rfl⟩)
    | ((with_reducible refine fin_i ?_); (conv => whnf); refine ⟨rfl, ?_⟩)
    | refine ⟨of_decide_eq_true rfl, ?_⟩
    | refine ⟨fun _ => of_decide_eq_true rfl, ?_⟩
    | ((with_reducible refine ⟨?_, ?_⟩); (focus (intros; simp_all; done)))
    | ((with_reducible refine ⟨?_, ?_⟩); (focus (intros; omega)))) <;> (try (conv => whnf)))
  refine looped (σ := Nat) (fun j => [(11, I j), (3, I (catR (l.take j)).length)]) (fun _ => []) (fun j => j ≤ l.length) (fun j => l.length - j) 0 (Nat.zero_le _) ?_ ?_
  · conv => whnf
    refine ⟨rfl, leaf_i ?_⟩
    repeat' ((with_reducible refine And.intro ?_ ?_) <;> (try (conv => whnf)))
    all_goals (try (first | with_reducible rfl | exact True.intro | rfl | exact id | exact fun h => h | exact fun _ => rfl))
  · rintro j hj
    dsimp only at hj ⊢
    have hle := catR_le (l := l) j
    conv => whnf
    repeat' ((first
      | with_reducible first | refine ⟨fun h => h, ?_⟩ | refine ⟨pk1, ?_⟩ | refine ⟨pk2, ?_⟩ | refine ⟨pk3, ?_⟩ | refine ⟨pk4, ?_⟩ | refine ⟨pk5, ?_⟩ | refine ⟨pk6, ?_⟩ | refine ⟨trivial, ?_⟩ | refine ⟨fun _ => trivial, ?_⟩ | refine ⟨rfl, ?_⟩ | refine every_i (fun hd => ?_) | refine everyN_i (fun k hk => ?_) | refine everyD_i (fun d hd => ?_) | refine fork_t (by assumption) ?_ | refine fork_f (by assumption) ?_
      | refine fork_t rfl ?_
      | refine fork_f rfl ?_
      | with_reducible first | refine fork_i (fun h => ?_) (fun h => ?_) | refine both_i ?_ ?_
      | ((with_reducible refine alike_i ?_); exact ⟨rfl, rfl, rfl⟩)
      | ((with_reducible refine fin_i ?_); (conv => whnf); refine ⟨rfl, ?_⟩)
      | refine ⟨of_decide_eq_true rfl, ?_⟩
      | refine ⟨fun _ => of_decide_eq_true rfl, ?_⟩
      | ((with_reducible refine ⟨?_, ?_⟩); (focus (intros; simp_all; done)))
      | ((with_reducible refine ⟨?_, ?_⟩); (focus (intros; omega)))) <;> (try (conv => whnf)))
    · exfalso
      have hj' : j < l.length := lt_t' (by assumption)
      have hle2 := catR_step hj'
      have h := of_decide_eq_true h
      rw [IntKind.wrap_i64] at h
      omega
    · have hj' : j < l.length := lt_t' (by assumption)
      have hle2 := catR_step hj'
      refine next_i (j + 1) hj' (by omega) rfl rfl ?_
      conv => whnf
      refine ⟨rfl, leaf_i ?_⟩
      repeat' ((with_reducible refine And.intro ?_ ?_) <;> (try (conv => whnf)))
      all_goals (try (first | with_reducible rfl | exact True.intro | rfl | exact id | exact fun h => h | exact fun _ => rfl))
      · exact wrapS' (by omega)
      · rw [IntKind.wrap_i64]
        have e : (catR (l.take (j + 1))).length = (catR (l.take j)).length + (getE tRR l (j : Int).toNat).1.length := by rw [catR_take hj', List.length_append]; rfl
        show _ = (((catR (l.take (j + 1))).length : Nat) : Int)
        rw [e]; push_cast; omega
    · have hj' : l.length ≤ j := lt_f' (by assumption)
      refine only [25, 26] ?_
      (conv => whnf)
      refine looped (σ := Nat × List Rec) (fun x => [(27, I x.1), (6, .ow 0 2 x.2.length)]) (fun x => [.row true tR 36 x.2]) (fun x => x.1 ≤ l.length ∧ x.2 = catR (l.take x.1)) (fun x => l.length - x.1) (0, []) ⟨Nat.zero_le _, rfl⟩ ?_ ?_
      · conv => whnf
        refine ⟨rfl, leaf_i ?_⟩
        repeat' ((with_reducible refine And.intro ?_ ?_) <;> (try (conv => whnf)))
        all_goals (try (first | with_reducible rfl | exact True.intro | rfl | exact id | exact fun h => h | exact fun _ => rfl))
      · rintro ⟨i, m⟩ ⟨hi, hm⟩
        dsimp only at hi hm ⊢
        conv => whnf
        repeat' ((first
          | with_reducible first | refine ⟨fun h => h, ?_⟩ | refine ⟨pk1, ?_⟩ | refine ⟨pk2, ?_⟩ | refine ⟨pk3, ?_⟩ | refine ⟨pk4, ?_⟩ | refine ⟨pk5, ?_⟩ | refine ⟨pk6, ?_⟩ | refine ⟨trivial, ?_⟩ | refine ⟨fun _ => trivial, ?_⟩ | refine ⟨rfl, ?_⟩ | refine every_i (fun hd => ?_) | refine everyN_i (fun k hk => ?_) | refine everyD_i (fun d hd => ?_) | refine fork_t (by assumption) ?_ | refine fork_f (by assumption) ?_
          | refine fork_t rfl ?_
          | refine fork_f rfl ?_
          | with_reducible first | refine fork_i (fun h => ?_) (fun h => ?_) | refine both_i ?_ ?_
          | ((with_reducible refine alike_i ?_); exact ⟨rfl, rfl, rfl⟩)
          | ((with_reducible refine fin_i ?_); (conv => whnf); refine ⟨rfl, ?_⟩)
          | refine ⟨of_decide_eq_true rfl, ?_⟩
          | refine ⟨fun _ => of_decide_eq_true rfl, ?_⟩
          | ((with_reducible refine ⟨?_, ?_⟩); (focus (intros; simp_all; done)))
          | ((with_reducible refine ⟨?_, ?_⟩); (focus (intros; omega)))) <;> (try (conv => whnf)))
        · have hi' : i < l.length := lt_t' (by assumption)
          have hle2 := catR_step hi'
          refine ⟨by rw [List.length_append, hm]; omega, ?_⟩
          (conv => whnf)
          conv => whnf
          repeat' ((first
            | with_reducible first | refine ⟨fun h => h, ?_⟩ | refine ⟨pk1, ?_⟩ | refine ⟨pk2, ?_⟩ | refine ⟨pk3, ?_⟩ | refine ⟨pk4, ?_⟩ | refine ⟨pk5, ?_⟩ | refine ⟨pk6, ?_⟩ | refine ⟨trivial, ?_⟩ | refine ⟨fun _ => trivial, ?_⟩ | refine ⟨rfl, ?_⟩ | refine every_i (fun hd => ?_) | refine everyN_i (fun k hk => ?_) | refine everyD_i (fun d hd => ?_) | refine fork_t (by assumption) ?_ | refine fork_f (by assumption) ?_
            | refine fork_t rfl ?_
            | refine fork_f rfl ?_
            | with_reducible first | refine fork_i (fun h => ?_) (fun h => ?_) | refine both_i ?_ ?_
            | ((with_reducible refine alike_i ?_); exact ⟨rfl, rfl, rfl⟩)
            | ((with_reducible refine fin_i ?_); (conv => whnf); refine ⟨rfl, ?_⟩)
            | refine ⟨of_decide_eq_true rfl, ?_⟩
            | refine ⟨fun _ => of_decide_eq_true rfl, ?_⟩
            | ((with_reducible refine ⟨?_, ?_⟩); (focus (intros; simp_all; done)))
            | ((with_reducible refine ⟨?_, ?_⟩); (focus (intros; omega)))) <;> (try (conv => whnf)))
          refine next_i (i + 1, m ++ (getE tRR l i).1) ⟨hi', by rw [catR_take hi', ← hm]⟩ (by dsimp only; omega) rfl rfl ?_
          conv => whnf
          refine ⟨rfl, leaf_i ?_⟩
          repeat' ((with_reducible refine And.intro ?_ ?_) <;> (try (conv => whnf)))
          all_goals (try (first | with_reducible rfl | exact True.intro | rfl | exact id | exact fun h => h | exact fun _ => rfl))
          all_goals first | exact wrapS' (by omega) | rfl | trace_state
        · have hi' : l.length ≤ i := lt_f' (by assumption)
          have hm : m = catR l := by rw [hm, List.take_of_length_le hi']
          all_goals ((with_reducible refine leaf_i ?_); (conv => whnf))
          repeat' ((with_reducible refine And.intro ?_ ?_) <;> (try (conv => whnf)))
          all_goals (try (first | with_reducible rfl | exact True.intro | rfl | exact id | exact fun h => h | exact fun _ => rfl))
          all_goals first | exact hm | (rw [hm]; done) | trace_state
def k_add : Sig := .arg (shR tRR) fun l => .done { pre := l.length < 4611686018427387904 ∧ (catR l).length ≤ 1000000000, res := .ow 0 2 (srtR (catR l)).length, new := [.row true tR 36 (srtR (catR l))] }
theorem c_add : FnOk Try.prog 23 k_add.con := by
  refine fnOkS mixed tys_ok (cs := [(49, k_concat.con), (50, (sortSig tR 36 51 srtR).con)]) ⟨c_concat, c_sort, trivial⟩ Try.func23 rfl (by kernel_rfl) Try.ntmps23 _ (h := ?_)
  intro l
  refine ⟨rfl, fun hp => ?_⟩
  obtain ⟨hp1, hp2⟩ := hp
  have hs : (catR l).length < 4611686018427387904 := by omega
  conv => whnf
  repeat' ((first
    | with_reducible first | refine ⟨fun h => h, ?_⟩ | refine ⟨pk1, ?_⟩ | refine ⟨pk2, ?_⟩ | refine ⟨pk3, ?_⟩ | refine ⟨pk4, ?_⟩ | refine ⟨pk5, ?_⟩ | refine ⟨pk6, ?_⟩ | refine ⟨trivial, ?_⟩ | refine ⟨fun _ => trivial, ?_⟩ | refine ⟨rfl, ?_⟩ | refine every_i (fun hd => ?_) | refine everyN_i (fun k hk => ?_) | refine everyD_i (fun d hd => ?_) | refine fork_t (by assumption) ?_ | refine fork_f (by assumption) ?_
    | refine fork_t rfl ?_
    | refine fork_f rfl ?_
    | with_reducible first | refine fork_i (fun h => ?_) (fun h => ?_) | refine both_i ?_ ?_
    | ((with_reducible refine alike_i ?_); exact ⟨rfl, rfl, rfl⟩)
    | ((with_reducible refine fin_i ?_); (conv => whnf); refine ⟨rfl, ?_⟩)
    | refine ⟨hs, ?_⟩
    | refine ⟨of_decide_eq_true rfl, ?_⟩
    | refine ⟨fun _ => of_decide_eq_true rfl, ?_⟩
    | ((with_reducible refine ⟨?_, ?_⟩); (focus (intros; simp_all; done)))
    | ((with_reducible refine ⟨?_, ?_⟩); (focus (intros; omega)))) <;> (try (conv => whnf)))
  all_goals ((with_reducible refine leaf_i ?_); (conv => whnf))
  repeat' ((with_reducible refine And.intro ?_ ?_) <;> (try (conv => whnf)))
  all_goals (try (first | with_reducible rfl | exact True.intro | rfl | exact id | exact fun h => h | exact fun _ => rfl))
  all_goals first | rfl | exact srtR_len _ | exact (srtR_len _).symm | trace_state
def k_srt : Sig := .arg (shR tR) fun l => .done { pre := l.length ≤ 1000000000, res := .ow 0 2 (srtR l).length, new := [.row true tR 36 (srtR l)] }
theorem c_srt : FnOk Try.prog 36 k_srt.con := by
  refine fnOkS mixed tys_ok (cs := [(23, k_add.con)]) ⟨c_add, trivial⟩ Try.func36 rfl (by kernel_rfl) Try.ntmps36 _ (h := ?_)
  intro l
  refine ⟨rfl, fun hp => ?_⟩
  have hp : l.length ≤ 1000000000 := hp
  have e : catR [(l, ())] = l := by simp [catR]
  conv => whnf
  repeat' ((first
    | with_reducible first | refine ⟨fun h => h, ?_⟩ | refine ⟨pk1, ?_⟩ | refine ⟨pk2, ?_⟩ | refine ⟨pk3, ?_⟩ | refine ⟨pk4, ?_⟩ | refine ⟨pk5, ?_⟩ | refine ⟨pk6, ?_⟩ | refine ⟨trivial, ?_⟩ | refine ⟨fun _ => trivial, ?_⟩ | refine ⟨rfl, ?_⟩ | refine every_i (fun hd => ?_) | refine everyN_i (fun k hk => ?_) | refine everyD_i (fun d hd => ?_) | refine fork_t (by assumption) ?_ | refine fork_f (by assumption) ?_
    | refine fork_t rfl ?_
    | refine fork_f rfl ?_
    | with_reducible first | refine fork_i (fun h => ?_) (fun h => ?_) | refine both_i ?_ ?_
    | ((with_reducible refine alike_i ?_); exact ⟨rfl, rfl, rfl⟩)
    | ((with_reducible refine fin_i ?_); (conv => whnf); refine ⟨rfl, ?_⟩)
    | refine ⟨of_decide_eq_true rfl, ?_⟩
    | refine ⟨fun _ => of_decide_eq_true rfl, ?_⟩
    | ((with_reducible refine ⟨?_, ?_⟩); (focus (intros; simp_all; done)))
    | ((with_reducible refine ⟨?_, ?_⟩); (focus (intros; omega)))) <;> (try (conv => whnf)))
  all_goals ((with_reducible refine leaf_i ?_); (conv => whnf))
  repeat' ((with_reducible refine And.intro ?_ ?_) <;> (try (conv => whnf)))
  all_goals (try (first | with_reducible rfl | exact True.intro | rfl | exact id | exact fun h => h | exact fun _ => rfl))
  all_goals first | (rw [e]; done) | trace_state
end Go.Proofs.Ytgmbmpojcnmcgaa

/- Layer 12: the document's Sorted. -/
namespace Go.Proofs.Ytgmbmpojcnmcgaa
set_option maxRecDepth 100000
open Go Go.RowKit Go.Sort Go.Proofs.Ytgmbmpojcnmcgaa.Eng
theorem ordR_gt (x y : Rec) : ordR x y > 0 ↔ (y.1 < x.1 ∨ y.1 = x.1 ∧ y.2.1 < x.2.1) := by
  obtain ⟨a1, a2, _⟩ := x
  obtain ⟨b1, b2, _⟩ := y
  have hp : ∀ u v : Int, cmpI u v > 0 ↔ v < u := fun u v => by unfold cmpI; split <;> (try split) <;> constructor <;> intro h <;> first | omega | (exfalso; revert h; decide) | decide
  have hz : ∀ u v : Int, cmpI u v = 0 ↔ u = v := fun u v => by unfold cmpI; split <;> (try split) <;> constructor <;> intro h <;> first | omega | (exfalso; revert h; decide) | rfl
  unfold ordR
  simp only [orI, hz]
  repeat' split
  all_goals (try simp only [hp])
  all_goals first | omega | (rename_i h; rw [hz] at h; omega)
theorem put_sorted {o : List Rec} {x : Rec} {at' : Nat} (hs : o.Pairwise (fun x y => leR x y = true)) (h1 : ∀ y ∈ o.drop at', ordR y x > 0) (h2 : at' = 0 ∨ ¬ ordR (getE tR o (at' - 1)) x > 0) (hl : at' ≤ o.length) :
    (o.take at' ++ x :: o.drop at').Pairwise (fun x y => leR x y = true) := by
  have hlt : ∀ y ∈ o.take at', leR y x = true := fun y hy => by
    rcases h2 with h2 | h2
    · subst h2; simp at hy
    · obtain ⟨j, hj, e⟩ := List.getElem_of_mem hy
      have hj' : j < at' := by simp at hj; omega
      have hyo : y = o[j]'(by omega) := by rw [← e]; simp
      have hlast : leR (getE tR o (at' - 1)) x = true := by
        rw [leR_iff]; rw [ordR_gt] at h2; omega
      have hg : getE tR o (at' - 1) = o[at' - 1]'(by omega) := by unfold getE; rw [List.getD_eq_getElem?_getD, List.getElem?_eq_getElem (by omega)]; rfl
      by_cases hje : j = at' - 1
      · subst hje; rw [hyo, ← hg]; exact hlast
      · have := (List.pairwise_iff_getElem.1 hs) j (at' - 1) (by omega) (by omega) (by omega)
        rw [← hyo, ← hg, leR_iff] at this
        rw [leR_iff] at hlast ⊢
        omega
  refine List.pairwise_append.2 ⟨hs.sublist (List.take_sublist _ _), List.pairwise_cons.2 ⟨fun y hy => ?_, hs.sublist (List.drop_sublist _ _)⟩, fun a ha b hb => ?_⟩
  · have := h1 y hy
    rw [ordR_gt] at this
    rw [leR_iff]; omega
  · rcases List.mem_cons.1 hb with rfl | hb
    · exact hlt a ha
    · have e : o = o.take at' ++ o.drop at' := (List.take_append_drop _ _).symm
      rw [e] at hs
      exact (List.pairwise_append.1 hs).2.2 a ha b hb
def Moved (o : List Rec) (k : Nat) (m : List Rec) : Prop := m.length = o.length + 1 ∧ (∀ j, j < k → m[j]? = o[j]?) ∧ ∀ j, k < j → m[j]? = o[j - 1]?
theorem moved_0 (o : List Rec) (x : Rec) : Moved o o.length (o ++ [x]) := by
  refine ⟨by simp, fun j hj => List.getElem?_append_left hj, fun j hj => ?_⟩
  rw [List.getElem?_eq_none (by simp; omega), List.getElem?_eq_none (by omega)]
theorem moved_s {o : List Rec} {k : Nat} {m : List Rec} (h : Moved o (k + 1) m) (hk : k < o.length) : Moved o k (m.set (k + 1) (getE tR m k)) := by
  obtain ⟨h1, h2, h3⟩ := h
  refine ⟨by simpa using h1, fun j hj => ?_, fun j hj => ?_⟩
  · rw [List.getElem?_set_ne (by omega)]; exact h2 j (by omega)
  · by_cases e : j = k + 1
    · subst e
      rw [List.getElem?_set_self (by omega)]
      have := h2 k (by omega)
      unfold getE
      rw [List.getD_eq_getElem?_getD, this, Nat.add_sub_cancel, List.getElem?_eq_getElem hk]
      rfl
    · rw [List.getElem?_set_ne (fun h => e h.symm)]; exact h3 j (by omega)
theorem moved_end {o : List Rec} {k : Nat} {m : List Rec} {x : Rec} (h : Moved o k m) (hk : k ≤ o.length) : m.set k x = o.take k ++ x :: o.drop k := by
  obtain ⟨h1, h2, h3⟩ := h
  apply List.ext_getElem?
  intro j
  rcases Nat.lt_trichotomy j k with hj | hj | hj
  · rw [List.getElem?_set_ne (by omega), h2 j hj, List.getElem?_append_left (by rw [List.length_take]; omega), List.getElem?_take, if_pos hj]
  · subst hj
    rw [List.getElem?_set_self (by omega), List.getElem?_append_right (by rw [List.length_take]; omega), List.length_take, show j - min j o.length = 0 by omega]
    rfl
  · rw [List.getElem?_set_ne (by omega), h3 j hj, List.getElem?_append_right (by rw [List.length_take]; omega), List.length_take, show j - min k o.length = (j - k - 1) + 1 by omega, List.getElem?_cons_succ, List.getElem?_drop, show k + (j - k - 1) = j - 1 by omega]
def k_rsrt : Sig := .arg (shR tR) fun l => .done { pre := l.length ≤ 1000000000, res := .ow 0 2 (srtR l).length, new := [.row true tR 36 (srtR l)] }
set_option maxHeartbeats 4000000 in
theorem c_rsrt : FnOk Try.prog 38 k_rsrt.con := by
  refine fnOkS mixed tys_ok (cs := [(62, (cmpSig tR ordR).con)]) ⟨c_order', trivial⟩ Try.func38 rfl (by kernel_rfl) Try.ntmps38 _ (h := ?_)
  intro l
  refine ⟨rfl, fun hp => ?_⟩
  have hp : l.length ≤ 1000000000 := hp
  conv => whnf
  repeat' ((first
    | with_reducible first | refine ⟨fun h => h, ?_⟩ | refine ⟨pk1, ?_⟩ | refine ⟨pk2, ?_⟩ | refine ⟨pk3, ?_⟩ | refine ⟨pk4, ?_⟩ | refine ⟨pk5, ?_⟩ | refine ⟨pk6, ?_⟩ | refine ⟨trivial, ?_⟩ | refine ⟨fun _ => trivial, ?_⟩ | refine ⟨rfl, ?_⟩ | refine every_i (fun hd => ?_) | refine everyN_i (fun k hk => ?_) | refine everyD_i (fun d hd => ?_) | refine fork_t (by assumption) ?_ | refine fork_f (by assumption) ?_
    | refine fork_t rfl ?_
    | refine fork_f rfl ?_
    | with_reducible first | refine fork_i (fun h => ?_) (fun h => ?_) | refine both_i ?_ ?_
    | ((with_reducible refine alike_i ?_); exact ⟨rfl, rfl, rfl⟩)
    | ((with_reducible refine fin_i ?_); (conv => whnf); refine ⟨rfl, ?_⟩)
    | refine ⟨of_decide_eq_true rfl, ?_⟩
    | refine ⟨fun _ => of_decide_eq_true rfl, ?_⟩
    | ((with_reducible refine ⟨?_, ?_⟩); (focus (intros; simp_all; done)))
    | ((with_reducible refine ⟨?_, ?_⟩); (focus (intros; omega)))) <;> (try (conv => whnf)))
  refine looped (σ := Nat × List Rec) (fun x => [(4, I x.1), (3, .ow 0 2 x.2.length)]) (fun x => [.row true tR 36 x.2]) (fun x => x.1 ≤ l.length ∧ x.2.Perm (l.take x.1) ∧ x.2.Pairwise (fun x y => leR x y = true)) (fun x => l.length - x.1) (0, []) ⟨Nat.zero_le _, by simp, List.Pairwise.nil⟩ ?_ ?_
  · conv => whnf
    refine ⟨rfl, leaf_i ?_⟩
    repeat' ((with_reducible refine And.intro ?_ ?_) <;> (try (conv => whnf)))
    all_goals (try (first | with_reducible rfl | exact True.intro | rfl | exact id | exact fun h => h | exact fun _ => rfl))
  · rintro ⟨i, o⟩ ⟨hi, hpm, hso⟩
    dsimp only at hi hpm hso ⊢
    have hol : o.length = i := by rw [hpm.length_eq, List.length_take]; omega
    conv => whnf
    repeat' ((first
      | with_reducible first | refine ⟨fun h => h, ?_⟩ | refine ⟨pk1, ?_⟩ | refine ⟨pk2, ?_⟩ | refine ⟨pk3, ?_⟩ | refine ⟨pk4, ?_⟩ | refine ⟨pk5, ?_⟩ | refine ⟨pk6, ?_⟩ | refine ⟨trivial, ?_⟩ | refine ⟨fun _ => trivial, ?_⟩ | refine ⟨rfl, ?_⟩ | refine every_i (fun hd => ?_) | refine everyN_i (fun k hk => ?_) | refine everyD_i (fun d hd => ?_) | refine fork_t (by assumption) ?_ | refine fork_f (by assumption) ?_
      | refine fork_t rfl ?_
      | refine fork_f rfl ?_
      | with_reducible first | refine fork_i (fun h => ?_) (fun h => ?_) | refine both_i ?_ ?_
      | ((with_reducible refine alike_i ?_); exact ⟨rfl, rfl, rfl⟩)
      | ((with_reducible refine fin_i ?_); (conv => whnf); refine ⟨rfl, ?_⟩)
      | refine ⟨of_decide_eq_true rfl, ?_⟩
      | refine ⟨fun _ => of_decide_eq_true rfl, ?_⟩
      | ((with_reducible refine ⟨?_, ?_⟩); (focus (intros; simp_all; done)))
      | ((with_reducible refine ⟨?_, ?_⟩); (focus (intros; omega)))) <;> (try (conv => whnf)))
    · have hi' : i < l.length := lt_t' (by assumption)
      refine only [4, 2, 0] ?_
      (conv => whnf)
      refine looped (σ := Nat) (fun a => [(5, I a), (3, .ow 0 2 o.length)]) (fun x => [.row true tR 36 o]) (fun a => a ≤ o.length ∧ ∀ y ∈ o.drop a, ordR y (getE tR l i) > 0) (fun a => a) o.length ⟨Nat.le_refl _, by simp⟩ ?_ ?_
      · conv => whnf
        refine ⟨rfl, leaf_i ?_⟩
        repeat' ((with_reducible refine And.intro ?_ ?_) <;> (try (conv => whnf)))
        all_goals (try (first | with_reducible rfl | exact True.intro | rfl | exact id | exact fun h => h | exact fun _ => rfl))
      · rintro a ⟨ha, hgt⟩
        dsimp only at ha hgt ⊢
        have hw : 0 < a → IntKind.i64.wrap ((a : Int) - 1) = ((a - 1 : Nat) : Int) := fun h => by rw [wrapI (by omega) (by omega)]; omega
        have hix : decide ((a : Int) > 0) = true → 0 ≤ IntKind.i64.wrap ((a : Int) - 1) ∧ IntKind.i64.wrap ((a : Int) - 1) < (o.length : Int) := fun h => by
          have h := of_decide_eq_true h
          rw [hw (by omega)]; omega
        have hil : 0 ≤ (i : Int) ∧ (i : Int) < (l.length : Int) := by omega
        conv => whnf
        repeat' ((first
          | with_reducible first | refine ⟨fun h => h, ?_⟩ | refine ⟨pk1, ?_⟩ | refine ⟨pk2, ?_⟩ | refine ⟨pk3, ?_⟩ | refine ⟨pk4, ?_⟩ | refine ⟨pk5, ?_⟩ | refine ⟨pk6, ?_⟩ | refine ⟨trivial, ?_⟩ | refine ⟨fun _ => trivial, ?_⟩ | refine ⟨rfl, ?_⟩ | refine every_i (fun hd => ?_) | refine everyN_i (fun k hk => ?_) | refine everyD_i (fun d hd => ?_) | refine fork_t (by assumption) ?_ | refine fork_f (by assumption) ?_
          | refine fork_t rfl ?_
          | refine fork_f rfl ?_
          | with_reducible first | refine fork_i (fun h => ?_) (fun h => ?_) | refine both_i ?_ ?_
          | ((with_reducible refine alike_i ?_); exact ⟨rfl, rfl, rfl⟩)
          | ((with_reducible refine fin_i ?_); (conv => whnf); refine ⟨rfl, ?_⟩)
          | refine ⟨hix, ?_⟩
          | refine ⟨fun _ => hil, ?_⟩
          | refine ⟨hil, ?_⟩
          | refine ⟨of_decide_eq_true rfl, ?_⟩
          | refine ⟨fun _ => of_decide_eq_true rfl, ?_⟩
          | ((with_reducible refine ⟨?_, ?_⟩); (focus (intros; simp_all; done)))
          | ((with_reducible refine ⟨?_, ?_⟩); (focus (intros; omega)))) <;> (try (conv => whnf)))
        · have h : (bif decide ((a : Int) > 0) then decide (ordR (getE tR o (IntKind.i64.wrap ((a : Int) - 1)).toNat) (getE tR l i) > 0) else false) = true := h
          cases ha0 : decide ((a : Int) > 0) with
          | false => rw [ha0] at h; cases h
          | true =>
            rw [ha0] at h
            have hpos : 0 < a := by have := of_decide_eq_true ha0; omega
            have h := of_decide_eq_true h
            rw [hw hpos, show (((a - 1 : Nat) : Int)).toNat = a - 1 from rfl] at h
            refine next_i (a - 1) ⟨by omega, fun y hy => ?_⟩ (by omega) rfl rfl ?_
            · rw [drop_get o (show a - 1 < o.length by omega), show a - 1 + 1 = a by omega] at hy
              rcases List.mem_cons.1 hy with rfl | hy
              · exact h
              · exact hgt y hy
            · conv => whnf
              refine ⟨rfl, leaf_i ?_⟩
              repeat' ((with_reducible refine And.intro ?_ ?_) <;> (try (conv => whnf)))
              all_goals (try (first | with_reducible rfl | exact True.intro | rfl | exact id | exact fun h => h | exact fun _ => rfl))
              all_goals (first | exact hw hpos | rfl | trace_state)
        · have h : (bif decide ((a : Int) > 0) then decide (ordR (getE tR o (IntKind.i64.wrap ((a : Int) - 1)).toNat) (getE tR l i) > 0) else false) = false := h
          have h2 : a = 0 ∨ ¬ ordR (getE tR o (a - 1)) (getE tR l i) > 0 := by
            rcases Nat.eq_zero_or_pos a with h0 | h0
            · exact .inl h0
            · rw [decide_eq_true (show ((a : Int) > 0) by omega), hw h0] at h
              exact .inr (of_decide_eq_false h)
          have hfin := put_sorted hso hgt h2 ha
          have hn : ((o ++ [getE tR l i]).length : Int) = (o.length : Int) + 1 := by rw [List.length_append]; simp
          have hwn : IntKind.i64.wrap (((o ++ [getE tR l i]).length : Int) - 1) = (o.length : Int) := by rw [hn, wrapI (by omega) (by omega)]; omega
          refine ⟨by rw [List.length_append, List.length_cons, List.length_nil]; omega, ?_⟩
          (conv => whnf)
          conv => whnf
          repeat' ((first
            | with_reducible first | refine ⟨fun h => h, ?_⟩ | refine ⟨pk1, ?_⟩ | refine ⟨pk2, ?_⟩ | refine ⟨pk3, ?_⟩ | refine ⟨pk4, ?_⟩ | refine ⟨pk5, ?_⟩ | refine ⟨pk6, ?_⟩ | refine ⟨trivial, ?_⟩ | refine ⟨fun _ => trivial, ?_⟩ | refine ⟨rfl, ?_⟩ | refine every_i (fun hd => ?_) | refine everyN_i (fun k hk => ?_) | refine everyD_i (fun d hd => ?_) | refine fork_t (by assumption) ?_ | refine fork_f (by assumption) ?_
            | refine fork_t rfl ?_
            | refine fork_f rfl ?_
            | with_reducible first | refine fork_i (fun h => ?_) (fun h => ?_) | refine both_i ?_ ?_
            | ((with_reducible refine alike_i ?_); exact ⟨rfl, rfl, rfl⟩)
            | ((with_reducible refine fin_i ?_); (conv => whnf); refine ⟨rfl, ?_⟩)
            | refine ⟨of_decide_eq_true rfl, ?_⟩
            | refine ⟨fun _ => of_decide_eq_true rfl, ?_⟩
            | ((with_reducible refine ⟨?_, ?_⟩); (focus (intros; simp_all; done)))
            | ((with_reducible refine ⟨?_, ?_⟩); (focus (intros; omega)))) <;> (try (conv => whnf)))
          refine only [5, 4, 2, 0] ?_
          (conv => whnf)
          refine looped (σ := Nat × List Rec) (fun x => [(6, I x.1), (3, .ow 0 2 (o.length + 1))]) (fun x => [.row true tR 36 x.2]) (fun x => a ≤ x.1 ∧ x.1 ≤ o.length ∧ Moved o x.1 x.2) (fun x => x.1) (o.length, o ++ [getE tR l i]) ⟨ha, Nat.le_refl _, moved_0 o _⟩ ?_ ?_
          · conv => whnf
            refine ⟨rfl, leaf_i ?_⟩
            repeat' ((with_reducible refine And.intro ?_ ?_) <;> (try (conv => whnf)))
            all_goals (try (first | with_reducible rfl | exact True.intro | rfl | exact id | exact fun h => h | exact fun _ => rfl))
            all_goals (first | exact hwn | rfl | (rw [List.length_append]; rfl) | trace_state)
          · rintro ⟨k, m⟩ ⟨hk1, hk2, hm⟩
            dsimp only at hk1 hk2 hm ⊢
            have hwk : 0 < k → IntKind.i64.wrap ((k : Int) - 1) = ((k - 1 : Nat) : Int) := fun h => by rw [wrapI (by omega) (by omega)]; omega
            have hik : (k : Int) > (a : Int) → 0 ≤ IntKind.i64.wrap ((k : Int) - 1) ∧ IntKind.i64.wrap ((k : Int) - 1) < ((o.length + 1 : Nat) : Int) := fun h => by
              rw [hwk (by omega)]; omega
            have hik2 : 0 ≤ (k : Int) ∧ (k : Int) < ((o.length + 1 : Nat) : Int) := by omega
            have hia2 : 0 ≤ (a : Int) ∧ (a : Int) < ((o.length + 1 : Nat) : Int) := by omega
            conv => whnf
            repeat' ((first
              | with_reducible first | refine ⟨fun h => h, ?_⟩ | refine ⟨pk1, ?_⟩ | refine ⟨pk2, ?_⟩ | refine ⟨pk3, ?_⟩ | refine ⟨pk4, ?_⟩ | refine ⟨pk5, ?_⟩ | refine ⟨pk6, ?_⟩ | refine ⟨trivial, ?_⟩ | refine ⟨fun _ => trivial, ?_⟩ | refine ⟨rfl, ?_⟩ | refine every_i (fun hd => ?_) | refine everyN_i (fun k hk => ?_) | refine everyD_i (fun d hd => ?_) | refine fork_t (by assumption) ?_ | refine fork_f (by assumption) ?_
              | refine fork_t rfl ?_
              | refine fork_f rfl ?_
              | with_reducible first | refine fork_i (fun h => ?_) (fun h => ?_) | refine both_i ?_ ?_
              | ((with_reducible refine alike_i ?_); exact ⟨rfl, rfl, rfl⟩)
              | ((with_reducible refine fin_i ?_); (conv => whnf); refine ⟨rfl, ?_⟩)
              | refine ⟨hik (of_decide_eq_true (by assumption)), ?_⟩
              | refine ⟨hik2, ?_⟩
              | refine ⟨hil, ?_⟩
              | refine ⟨hia2, ?_⟩
              | refine ⟨of_decide_eq_true rfl, ?_⟩
              | refine ⟨fun _ => of_decide_eq_true rfl, ?_⟩
              | ((with_reducible refine ⟨?_, ?_⟩); (focus (intros; simp_all; done)))
              | ((with_reducible refine ⟨?_, ?_⟩); (focus (intros; omega)))) <;> (try (conv => whnf)))
            · have hlt : k > a := by have := of_decide_eq_true (by assumption : decide ((k : Int) > (a : Int)) = true); omega
              obtain ⟨k, rfl⟩ : ∃ j, k = j + 1 := ⟨k - 1, by omega⟩
              refine next_i (k, m.set (k + 1) (getE tR m k)) ⟨by dsimp only; omega, by dsimp only; omega, moved_s hm (by omega)⟩ (by dsimp only; omega) rfl rfl ?_
              conv => whnf
              refine ⟨rfl, leaf_i ?_⟩
              repeat' ((with_reducible refine And.intro ?_ ?_) <;> (try (conv => whnf)))
              all_goals (try (first | with_reducible rfl | exact True.intro | rfl | exact id | exact fun h => h | exact fun _ => rfl))
              all_goals (first | exact hwk (by omega) | rfl | (rw [hwk (by omega)]; rfl) | trace_state)
            · have hka : k = a := by have := of_decide_eq_false (by assumption : decide ((k : Int) > (a : Int)) = false); omega
              subst hka
              have hset := moved_end (x := getE tR l i) hm ha
              refine next_i (i + 1, o.take k ++ getE tR l i :: o.drop k) ⟨hi', ?_, hfin⟩ (by dsimp only; omega) rfl rfl ?_
              · dsimp only
                rw [take_get l hi']
                refine (List.perm_middle).trans ?_
                rw [List.take_append_drop]
                exact ((List.perm_append_comm (l₁ := [getE tR l i]) (l₂ := o))).trans (hpm.append_right _)
              · conv => whnf
                refine ⟨rfl, leaf_i ?_⟩
                repeat' ((with_reducible refine And.intro ?_ ?_) <;> (try (conv => whnf)))
                all_goals (try (first | with_reducible rfl | exact True.intro | rfl | exact id | exact fun h => h | exact fun _ => rfl))
                all_goals (first | exact wrapS (by omega) | rfl | exact hset | (rw [← hset, List.length_set, hm.1]; done) | trace_state)
    · have hi' : l.length ≤ i := lt_f' (by assumption)
      have e : srtR l = o := srtR_of (by rw [List.take_of_length_le hi'] at hpm; exact hpm.symm) hso
      all_goals ((with_reducible refine leaf_i ?_); (conv => whnf))
      repeat' ((with_reducible refine And.intro ?_ ?_) <;> (try (conv => whnf)))
      all_goals (try (first | with_reducible rfl | exact True.intro | rfl | exact id | exact fun h => h | exact fun _ => rfl))
      all_goals (first | (rw [e]; done) | trace_state)
end Go.Proofs.Ytgmbmpojcnmcgaa

/- Times and summaries in plain Lean: what layers 5 and 8 answer. No program in sight. -/
namespace Go.Proofs.Ytgmbmpojcnmcgaa
structure St where
  d : Int
  e : Int
  a : Int
  b : Int
  c : Int
structure Sm where
  f : Int
  t : Int
  k : Int
  n : Int
  a : Int
  b : Int
  c : Int
def tOK (d e a b c : Int) : Prop :=
  0 ≤ d ∧ d ≤ 3 ∧ 0 ≤ e ∧ e < 1000 ∧ 0 ≤ a ∧ a < 16 ∧ 0 ≤ b ∧ b < 16 ∧ 0 ≤ c ∧ c < 16 ∧ (d ≤ 0 → a = 0) ∧ (d ≤ 1 → b = 0) ∧ (d ≤ 2 → c = 0)
instance (d e a b c : Int) : Decidable (tOK d e a b c) := by unfold tOK; infer_instance
def rT (d e a b c : Int) : Bool := decide (tOK d e a b c)
def sOK (f t k n a b c : Int) : Prop :=
  0 ≤ f ∧ f ≤ 3 ∧ 0 ≤ t ∧ t ≤ 3 ∧ 0 ≤ k ∧ k ≤ f ∧ k ≤ t ∧ 0 ≤ n ∧ n < 16 ∧ (k = 0 → n = 0) ∧
  0 ≤ a ∧ a < 16 ∧ 0 ≤ b ∧ b < 16 ∧ 0 ≤ c ∧ c < 16 ∧ (t - k ≤ 0 → a = 0) ∧ (t - k ≤ 1 → b = 0) ∧ (t - k ≤ 2 → c = 0)
instance (f t k n a b c : Int) : Decidable (sOK f t k n a b c) := by unfold sOK; infer_instance
def rS (f t k n a b c : Int) : Bool := decide (sOK f t k n a b c)
theorem rT_true {d e a b c : Int} (h : tOK d e a b c) : rT d e a b c = true := decide_eq_true h
theorem rT_false {d e a b c : Int} (h : ¬ tOK d e a b c) : rT d e a b c = false := decide_eq_false h
theorem rT_ok {d e a b c : Int} (h : rT d e a b c = true) : tOK d e a b c := of_decide_eq_true h
theorem rT_not {d e a b c : Int} (h : rT d e a b c = false) : ¬ tOK d e a b c := of_decide_eq_false h
theorem rS_true {f t k n a b c : Int} (h : sOK f t k n a b c) : rS f t k n a b c = true := decide_eq_true h
theorem rS_false {f t k n a b c : Int} (h : ¬ sOK f t k n a b c) : rS f t k n a b c = false := decide_eq_false h
theorem rS_ok {f t k n a b c : Int} (h : rS f t k n a b c = true) : sOK f t k n a b c := of_decide_eq_true h
theorem rS_not {f t k n a b c : Int} (h : rS f t k n a b c = false) : ¬ sOK f t k n a b c := of_decide_eq_false h
def St.ok (s : St) : Bool := rT s.d s.e s.a s.b s.c
def Sm.ok (s : Sm) : Bool := rS s.f s.t s.k s.n s.a s.b s.c
def ctr (n : Int) : Bool := decide (0 ≤ n ∧ n < 16)
def dpt (n : Int) : Bool := decide (0 ≤ n ∧ n ≤ 3)
theorem ctr_true {n : Int} (h : 0 ≤ n ∧ n < 16) : ctr n = true := decide_eq_true h
theorem ctr_false {n : Int} (h : ¬ (0 ≤ n ∧ n < 16)) : ctr n = false := decide_eq_false h
theorem ctr_ok {n : Int} (h : ctr n = true) : 0 ≤ n ∧ n < 16 := of_decide_eq_true h
theorem ctr_not {n : Int} (h : ctr n = false) : ¬ (0 ≤ n ∧ n < 16) := of_decide_eq_false h
theorem dpt_true {n : Int} (h : 0 ≤ n ∧ n ≤ 3) : dpt n = true := decide_eq_true h
theorem dpt_false {n : Int} (h : ¬ (0 ≤ n ∧ n ≤ 3)) : dpt n = false := decide_eq_false h
theorem dpt_ok {n : Int} (h : dpt n = true) : 0 ≤ n ∧ n ≤ 3 := of_decide_eq_true h
theorem dpt_not {n : Int} (h : dpt n = false) : ¬ (0 ≤ n ∧ n ≤ 3) := of_decide_eq_false h
def St.zero : St := ⟨0, 0, 0, 0, 0⟩
def Sm.zero : Sm := ⟨0, 0, 0, 0, 0, 0, 0⟩
def St.at (s : St) (i : Int) : Int := if i = 0 then s.a else if i = 1 then s.b else s.c
def Sm.at (s : Sm) (i : Int) : Int := if i = 0 then s.a else if i = 1 then s.b else s.c
def ofS (kind depth : Int) : Sm × Bool :=
  let s : Sm := if kind = 7 then ⟨depth - 1, depth, depth - 1, 0, 0, 0, 0⟩ else if kind = 8 then ⟨depth + 1, depth, depth, 0, 0, 0, 0⟩
    else if kind = 9 then ⟨depth, depth, depth, 1, 0, 0, 0⟩ else ⟨depth, depth, depth, 0, 0, 0, 0⟩
  if 1 ≤ kind ∧ kind ≤ 10 ∧ s.ok = true then (s, true) else (Sm.zero, false)
def apN (s : Sm) (t : St) (i : Int) : Int :=
  if i < s.k then t.at i + (if i = s.k - 1 then s.n else 0) else if i < s.t then s.at (i - s.k) else 0
def apS (s : Sm) (t : St) : St × Bool :=
  let u : St := ⟨s.t, t.e, apN s t 0, apN s t 1, apN s t 2⟩
  if s.ok = true ∧ t.ok = true ∧ t.d = s.f ∧ u.ok = true then (u, true) else (St.zero, false)
def rwN (s : Sm) (i : Int) : Int := if i < s.k - 1 then 0 else if i = s.k - 1 then s.n else s.at (i - s.k)
def atS (s : Sm) (i : Int) : Bool × Int := if i ≥ s.k then (false, s.at (i - s.k)) else if i = s.k - 1 then (true, s.n) else (true, 0)
def thT (a b : Sm) (i : Int) : Int := if i < b.k - a.k then a.at i + (if i = b.k - a.k - 1 then b.n else 0) else b.at (i - (b.k - a.k))
def thC (a b : Sm) : Sm :=
  if b.k < a.k then ⟨a.f, b.t, b.k, b.n, b.a, b.b, b.c⟩
  else if b.k = a.k then ⟨a.f, b.t, a.k, a.n + b.n, b.a, b.b, b.c⟩
  else ⟨a.f, b.t, a.k, a.n, thT a b 0, thT a b 1, thT a b 2⟩
def thS (a b : Sm) : Sm × Bool :=
  if a.ok = true ∧ b.ok = true ∧ a.t = b.f ∧ (thC a b).ok = true then (thC a b, true) else (Sm.zero, false)
def leS (a b : Sm) : Bool :=
  decide (a.ok = true ∧ b.ok = true ∧ a.f = b.f ∧ a.t = b.t ∧ a.k ≤ b.k ∧ rwN a 0 ≤ rwN b 0 ∧ rwN a 1 ≤ rwN b 1 ∧ rwN a 2 ≤ rwN b 2)
def alS (a b : St) : Bool := decide (a.d = b.d ∧ a.ok = true ∧ b.ok = true)
def mx (x y : Int) : Int := if y > x then y else x
def joS (a b : St) : St × Bool := if alS a b = true then (⟨a.d, mx a.e b.e, mx a.a b.a, mx a.b b.b, mx a.c b.c⟩, true) else (St.zero, false)
def leT (a b : St) : Bool := decide (alS a b = true ∧ a.e ≤ b.e ∧ a.a ≤ b.a ∧ a.b ≤ b.b ∧ a.c ≤ b.c)
end Go.Proofs.Ytgmbmpojcnmcgaa

/- Times and summaries as shapes. -/
namespace Go.Proofs.Ytgmbmpojcnmcgaa
open Go Go.Proofs.Ytgmbmpojcnmcgaa.Eng
def gSt : AV → Option St
  | .agg l => match gL 5 l with
    | some [d, e, a, b, c] => some ⟨d, e, a, b, c⟩
    | _ => none
  | _ => none
abbrev pSt (s : St) : AV := .agg (.cons (I s.d) (.cons (I s.e) (.cons (I s.a) (.cons (I s.b) (.cons (I s.c) .nil)))))
theorem gSt_ok {v : AV} {x : St} (h : gSt v = some x) : v = pSt x := by
  unfold gSt at h
  split at h
  · split at h
    · rename_i hl
      injection h with h; subst h
      rw [(gL_ok 5 hl).1]; rfl
    · cases h
  · cases h
def shSt : Sh St := .mk' gSt pSt (fun _ _ h => gSt_ok h)
def gSm : AV → Option Sm
  | .agg l => match gL 7 l with
    | some [f, t, k, n, a, b, c] => some ⟨f, t, k, n, a, b, c⟩
    | _ => none
  | _ => none
abbrev pSm (s : Sm) : AV := .agg (.cons (I s.f) (.cons (I s.t) (.cons (I s.k) (.cons (I s.n) (.cons (I s.a) (.cons (I s.b) (.cons (I s.c) .nil)))))))
theorem gSm_ok {v : AV} {x : Sm} (h : gSm v = some x) : v = pSm x := by
  unfold gSm at h
  split at h
  · split at h
    · rename_i hl
      injection h with h; subst h
      rw [(gL_ok 7 hl).1]; rfl
    · cases h
  · cases h
def shSm : Sh Sm := .mk' gSm pSm (fun _ _ h => gSm_ok h)
abbrev pP (a b : AV) : AV := .tup (.cons a (.cons b .nil))
end Go.Proofs.Ytgmbmpojcnmcgaa

/- Times of layer 13 in plain Lean: into a loop, out of it, round in it. -/
namespace Go.Proofs.Ytgmbmpojcnmcgaa
def inS (t : St) : St × Bool := if t.ok = true ∧ t.d < 3 then (⟨t.d + 1, t.e, t.a, t.b, t.c⟩, true) else (St.zero, false)
def outS (t : St) : St × Bool := if t.ok = true ∧ 0 < t.d then (⟨t.d - 1, t.e, if t.d = 1 then 0 else t.a, if t.d = 2 then 0 else t.b, if t.d = 3 then 0 else t.c⟩, true) else (St.zero, false)
def upS (t : St) : St := ⟨t.d, t.e, if t.d = 1 then t.a + 1 else t.a, if t.d = 2 then t.b + 1 else t.b, if t.d = 3 then t.c + 1 else t.c⟩
def stS (t : St) : St × Bool := if t.ok = true ∧ 0 < t.d ∧ (upS t).ok = true then (upS t, true) else (St.zero, false)
theorem d_cases (d : Int) : d = 0 ∨ d = 1 ∨ d = 2 ∨ d = 3 ∨ (d < 0 ∨ d > 3) := by omega
theorem bad_d {d e a b c : Int} (h : d < 0 ∨ d > 3) : rT d e a b c = false := rT_false (by unfold tOK; omega)
end Go.Proofs.Ytgmbmpojcnmcgaa

/- Layer 5 as layer 13 reaches it. -/
namespace Go.Proofs.Ytgmbmpojcnmcgaa
open Go Go.RowKit Go.Proofs.Ytgmbmpojcnmcgaa.Eng
def k_rT : Sig := .arg shSt fun s => .done { pre := True, res := B s.ok }
def k_alike : Sig := .arg shSt fun a => .arg shSt fun b => .done { pre := True, res := B (alS a b) }
def k_join : Sig := .arg shSt fun a => .arg shSt fun b => .done { pre := True, res := pP (pSt (joS a b).1) (B (joS a b).2) }
def k_leT : Sig := .arg shSt fun a => .arg shSt fun b => .done { pre := True, res := B (leT a b) }
def i64r (n : Int) : Prop := -9223372036854775808 ≤ n ∧ n ≤ 9223372036854775807
def k_into : Sig := .arg shSt fun t => .done { pre := i64r t.d, res := pP (pSt (inS t).1) (B (inS t).2) }
def k_out : Sig := .arg shSt fun t => .done { pre := True, res := pP (pSt (outS t).1) (B (outS t).2) }
def k_step : Sig := .arg shSt fun t => .done { pre := True, res := pP (pSt (stS t).1) (B (stS t).2) }
set_option maxHeartbeats 2000000 in
theorem c_rT : FnOk Try.prog 27 k_rT.con := by
  refine fnOkS mixed tys_ok (cs := []) trivial Try.func27 rfl (by kernel_rfl) Try.ntmps27 _ (h := ?_)
  intro s
  refine ⟨rfl, fun _ => ?_⟩
  conv => whnf
  repeat' ((first
    | with_reducible first | refine ⟨fun h => h, ?_⟩ | refine ⟨pk1, ?_⟩ | refine ⟨pk2, ?_⟩ | refine ⟨pk3, ?_⟩ | refine ⟨pk4, ?_⟩ | refine ⟨pk5, ?_⟩ | refine ⟨pk6, ?_⟩ | refine ⟨trivial, ?_⟩ | refine ⟨fun _ => trivial, ?_⟩ | refine ⟨rfl, ?_⟩ | refine every_i (fun hd => ?_) | refine everyN_i (fun k hk => ?_) | refine everyD_i (fun d hd => ?_) | refine fork_t (by assumption) ?_ | refine fork_f (by assumption) ?_
    | refine fork_t rfl ?_
    | refine fork_f rfl ?_
    | with_reducible first | refine fork_i (fun h => ?_) (fun h => ?_) | refine unroll 4 ?_ | refine both_i ?_ ?_
    | ((with_reducible refine alike_i ?_); exact ⟨rfl, rfl, rfl⟩)
    | ((with_reducible refine fin_i ?_); (conv => whnf); refine ⟨rfl, ?_⟩)
    | refine ⟨of_decide_eq_true rfl, ?_⟩
    | refine ⟨fun _ => of_decide_eq_true rfl, ?_⟩
    | ((with_reducible refine ⟨?_, ?_⟩); (focus (intros; simp_all; done)))
    | ((with_reducible refine ⟨?_, ?_⟩); (focus (intros; omega)))) <;> (try (conv => whnf)))
  all_goals ((with_reducible refine leaf_i ?_); (conv => whnf))
  repeat' ((with_reducible refine And.intro ?_ ?_) <;> (try (conv => whnf)))
  all_goals (try (first | with_reducible rfl | exact True.intro | rfl | exact id | exact fun h => h | exact fun _ => rfl))
  all_goals (first | refine (rT_true ?_).symm | refine (rT_false ?_).symm)
  all_goals (simp [IntKind.wrap_i64] at *; unfold tOK; omega)
set_option maxHeartbeats 2000000 in
theorem c_rT' : FnOk Try.prog 46 k_rT.con := by
  refine fnOkS mixed tys_ok (cs := []) trivial Try.func46 rfl (by kernel_rfl) Try.ntmps46 _ (h := ?_)
  intro s
  refine ⟨rfl, fun _ => ?_⟩
  conv => whnf
  repeat' ((first
    | with_reducible first | refine ⟨fun h => h, ?_⟩ | refine ⟨pk1, ?_⟩ | refine ⟨pk2, ?_⟩ | refine ⟨pk3, ?_⟩ | refine ⟨pk4, ?_⟩ | refine ⟨pk5, ?_⟩ | refine ⟨pk6, ?_⟩ | refine ⟨trivial, ?_⟩ | refine ⟨fun _ => trivial, ?_⟩ | refine ⟨rfl, ?_⟩ | refine every_i (fun hd => ?_) | refine everyN_i (fun k hk => ?_) | refine everyD_i (fun d hd => ?_) | refine fork_t (by assumption) ?_ | refine fork_f (by assumption) ?_
    | refine fork_t rfl ?_
    | refine fork_f rfl ?_
    | with_reducible first | refine fork_i (fun h => ?_) (fun h => ?_) | refine unroll 4 ?_ | refine both_i ?_ ?_
    | ((with_reducible refine alike_i ?_); exact ⟨rfl, rfl, rfl⟩)
    | ((with_reducible refine fin_i ?_); (conv => whnf); refine ⟨rfl, ?_⟩)
    | refine ⟨of_decide_eq_true rfl, ?_⟩
    | refine ⟨fun _ => of_decide_eq_true rfl, ?_⟩
    | ((with_reducible refine ⟨?_, ?_⟩); (focus (intros; simp_all; done)))
    | ((with_reducible refine ⟨?_, ?_⟩); (focus (intros; omega)))) <;> (try (conv => whnf)))
  all_goals ((with_reducible refine leaf_i ?_); (conv => whnf))
  repeat' ((with_reducible refine And.intro ?_ ?_) <;> (try (conv => whnf)))
  all_goals (try (first | with_reducible rfl | exact True.intro | rfl | exact id | exact fun h => h | exact fun _ => rfl))
  all_goals (first | refine (rT_true ?_).symm | refine (rT_false ?_).symm)
  all_goals (simp [IntKind.wrap_i64] at *; unfold tOK; omega)
theorem c_alike : FnOk Try.prog 72 k_alike.con := by
  refine fnOkS mixed tys_ok (cs := [(27, k_rT.con)]) ⟨c_rT, trivial⟩ Try.func72 rfl (by kernel_rfl) Try.ntmps72 _ (h := ?_)
  rintro ⟨d, e, x, y, z⟩ ⟨d', e', x', y', z'⟩
  refine ⟨rfl, fun hp => ?_⟩
  conv => whnf
  repeat' ((first
    | with_reducible first | refine ⟨fun h => h, ?_⟩ | refine ⟨pk1, ?_⟩ | refine ⟨pk2, ?_⟩ | refine ⟨pk3, ?_⟩ | refine ⟨pk4, ?_⟩ | refine ⟨pk5, ?_⟩ | refine ⟨pk6, ?_⟩ | refine ⟨trivial, ?_⟩ | refine ⟨fun _ => trivial, ?_⟩ | refine ⟨rfl, ?_⟩ | refine every_i (fun hd => ?_) | refine everyN_i (fun k hk => ?_) | refine everyD_i (fun d hd => ?_) | refine fork_t (by assumption) ?_ | refine fork_f (by assumption) ?_
    | refine fork_t rfl ?_
    | refine fork_f rfl ?_
    | with_reducible first | refine fork_i (fun h => ?_) (fun h => ?_) | refine unroll 1 ?_ | refine both_i ?_ ?_
    | ((with_reducible refine alike_i ?_); exact ⟨rfl, rfl, rfl⟩)
    | ((with_reducible refine fin_i ?_); (conv => whnf); refine ⟨rfl, ?_⟩)
    | refine ⟨of_decide_eq_true rfl, ?_⟩
    | refine ⟨fun _ => of_decide_eq_true rfl, ?_⟩
    | ((with_reducible refine ⟨?_, ?_⟩); (focus (intros; simp_all; done)))
    | ((with_reducible refine ⟨?_, ?_⟩); (focus (intros; omega)))) <;> (try (conv => whnf)))
  all_goals ((with_reducible refine leaf_i ?_); (conv => whnf))
  repeat' ((with_reducible refine And.intro ?_ ?_) <;> (try (conv => whnf)))
  all_goals (try (first | with_reducible rfl | exact True.intro | rfl | exact id | exact fun h => h | exact fun _ => rfl))
  unfold alS
  rw [Bool.eq_iff_iff]
  simp
  constructor
  · rintro ⟨⟨h1, h2⟩, h3⟩; exact ⟨h1, h2, h3⟩
  · rintro ⟨h1, h2, h3⟩; exact ⟨⟨h1, h2⟩, h3⟩
theorem c_join : FnOk Try.prog 52 k_join.con := by
  refine fnOkS mixed tys_ok (cs := [(72, k_alike.con)]) ⟨c_alike, trivial⟩ Try.func52 rfl (by kernel_rfl) Try.ntmps52 _ (h := ?_)
  rintro ⟨d, e, x, y, z⟩ ⟨d', e', x', y', z'⟩
  refine ⟨rfl, fun hp => ?_⟩
  conv => whnf
  repeat' ((first
    | with_reducible first | refine ⟨fun h => h, ?_⟩ | refine ⟨pk1, ?_⟩ | refine ⟨pk2, ?_⟩ | refine ⟨pk3, ?_⟩ | refine ⟨pk4, ?_⟩ | refine ⟨pk5, ?_⟩ | refine ⟨pk6, ?_⟩ | refine ⟨trivial, ?_⟩ | refine ⟨fun _ => trivial, ?_⟩ | refine ⟨rfl, ?_⟩ | refine every_i (fun hd => ?_) | refine everyN_i (fun k hk => ?_) | refine everyD_i (fun d hd => ?_) | refine fork_t (by assumption) ?_ | refine fork_f (by assumption) ?_
    | refine fork_t rfl ?_
    | refine fork_f rfl ?_
    | with_reducible first | refine fork_i (fun h => ?_) (fun h => ?_) | refine unroll 4 ?_ | refine both_i ?_ ?_
    | ((with_reducible refine alike_i ?_); exact ⟨rfl, rfl, rfl⟩)
    | ((with_reducible refine fin_i ?_); (conv => whnf); refine ⟨rfl, ?_⟩)
    | refine ⟨of_decide_eq_true rfl, ?_⟩
    | refine ⟨fun _ => of_decide_eq_true rfl, ?_⟩
    | ((with_reducible refine ⟨?_, ?_⟩); (focus (intros; simp_all; done)))
    | ((with_reducible refine ⟨?_, ?_⟩); (focus (intros; omega)))) <;> (try (conv => whnf)))
  all_goals ((with_reducible refine leaf_i ?_); (conv => whnf))
  repeat' ((with_reducible refine And.intro ?_ ?_) <;> (try (conv => whnf)))
  all_goals (try (first | with_reducible rfl | exact True.intro | rfl | exact id | exact fun h => h | exact fun _ => rfl))
  all_goals (simp at h)
  all_goals (simp [joS, h, mx, St.zero])
theorem c_leT : FnOk Try.prog 26 k_leT.con := by
  refine fnOkS mixed tys_ok (cs := [(52, k_join.con)]) ⟨c_join, trivial⟩ Try.func26 rfl (by kernel_rfl) Try.ntmps26 _ (h := ?_)
  rintro ⟨d, e, x, y, z⟩ ⟨d', e', x', y', z'⟩
  refine ⟨rfl, fun hp => ?_⟩
  conv => whnf
  repeat' ((first
    | with_reducible first | refine ⟨fun h => h, ?_⟩ | refine ⟨pk1, ?_⟩ | refine ⟨pk2, ?_⟩ | refine ⟨pk3, ?_⟩ | refine ⟨pk4, ?_⟩ | refine ⟨pk5, ?_⟩ | refine ⟨pk6, ?_⟩ | refine ⟨trivial, ?_⟩ | refine ⟨fun _ => trivial, ?_⟩ | refine ⟨rfl, ?_⟩ | refine every_i (fun hd => ?_) | refine everyN_i (fun k hk => ?_) | refine everyD_i (fun d hd => ?_) | refine fork_t (by assumption) ?_ | refine fork_f (by assumption) ?_
    | refine fork_t rfl ?_
    | refine fork_f rfl ?_
    | with_reducible first | refine fork_i (fun h => ?_) (fun h => ?_) | refine unroll 4 ?_ | refine both_i ?_ ?_
    | ((with_reducible refine alike_i ?_); exact ⟨rfl, rfl, rfl⟩)
    | ((with_reducible refine fin_i ?_); (conv => whnf); refine ⟨rfl, ?_⟩)
    | refine ⟨of_decide_eq_true rfl, ?_⟩
    | refine ⟨fun _ => of_decide_eq_true rfl, ?_⟩
    | ((with_reducible refine ⟨?_, ?_⟩); (focus (intros; simp_all; done)))
    | ((with_reducible refine ⟨?_, ?_⟩); (focus (intros; omega)))) <;> (try (conv => whnf)))
  all_goals ((with_reducible refine leaf_i ?_); (conv => whnf))
  repeat' ((with_reducible refine And.intro ?_ ?_) <;> (try (conv => whnf)))
  all_goals (try (first | with_reducible rfl | exact True.intro | rfl | exact id | exact fun h => h | exact fun _ => rfl))
  unfold leT joS
  cases ha : alS ⟨d, e, x, y, z⟩ ⟨d', e', x', y', z'⟩
  · simp
  · rw [Bool.eq_iff_iff]
    simp [mx]
    omega
set_option maxHeartbeats 4000000 in
theorem c_out : FnOk Try.prog 41 k_out.con := by
  refine fnOkS mixed tys_ok (cs := [(27, k_rT.con)]) ⟨c_rT, trivial⟩ Try.func41 rfl (by kernel_rfl) Try.ntmps41 _ (h := ?_)
  rintro ⟨d, e, x, y, z⟩
  refine ⟨rfl, fun hp => ?_⟩
  rcases d_cases d with rfl | rfl | rfl | rfl | hd
  iterate 4
    · conv => whnf
      repeat' ((first
        | with_reducible first | refine ⟨fun h => h, ?_⟩ | refine ⟨pk1, ?_⟩ | refine ⟨pk2, ?_⟩ | refine ⟨pk3, ?_⟩ | refine ⟨pk4, ?_⟩ | refine ⟨pk5, ?_⟩ | refine ⟨pk6, ?_⟩ | refine ⟨trivial, ?_⟩ | refine ⟨fun _ => trivial, ?_⟩ | refine ⟨rfl, ?_⟩ | refine every_i (fun hd => ?_) | refine everyN_i (fun k hk => ?_) | refine everyD_i (fun d hd => ?_) | refine fork_t (by assumption) ?_ | refine fork_f (by assumption) ?_
        | refine fork_t rfl ?_
        | refine fork_f rfl ?_
        | with_reducible first | refine fork_i (fun h => ?_) (fun h => ?_) | refine unroll 4 ?_ | refine both_i ?_ ?_
        | ((with_reducible refine alike_i ?_); exact ⟨rfl, rfl, rfl⟩)
        | ((with_reducible refine fin_i ?_); (conv => whnf); refine ⟨rfl, ?_⟩)
        | refine ⟨of_decide_eq_true rfl, ?_⟩
        | refine ⟨fun _ => of_decide_eq_true rfl, ?_⟩
        | ((with_reducible refine ⟨?_, ?_⟩); (focus (intros; simp_all; done)))
        | ((with_reducible refine ⟨?_, ?_⟩); (focus (intros; omega)))) <;> (try (conv => whnf)))
      all_goals ((with_reducible refine leaf_i ?_); (conv => whnf))
      repeat' ((with_reducible refine And.intro ?_ ?_) <;> (try (conv => whnf)))
      all_goals (try (first | with_reducible rfl | exact True.intro | rfl | exact id | exact fun h => h | exact fun _ => rfl))
      all_goals (simp only [outS, St.ok, St.zero, rT, decide_eq_true_eq]; split <;> first | rfl | (exfalso; (try simp [IntKind.wrap_i64, rT, St.ok] at *) <;> (unfold tOK at *; omega)) | (simp [IntKind.wrap_i64]; done) | trace_state)
  · have hb : (⟨d, e, x, y, z⟩ : St).ok = false := bad_d hd
    have hb' : (!(⟨d, e, x, y, z⟩ : St).ok) = true := by rw [hb]; rfl
    conv => whnf
    repeat' ((first
      | refine fork_t (by simp [hb]) ?_
      | with_reducible first | refine ⟨fun h => h, ?_⟩ | refine ⟨pk1, ?_⟩ | refine ⟨pk2, ?_⟩ | refine ⟨pk3, ?_⟩ | refine ⟨pk4, ?_⟩ | refine ⟨pk5, ?_⟩ | refine ⟨pk6, ?_⟩ | refine ⟨trivial, ?_⟩ | refine ⟨fun _ => trivial, ?_⟩ | refine ⟨rfl, ?_⟩ | refine every_i (fun hd => ?_) | refine everyN_i (fun k hk => ?_) | refine everyD_i (fun d hd => ?_) | refine fork_t (by assumption) ?_ | refine fork_f (by assumption) ?_
      | refine fork_t rfl ?_
      | refine fork_f rfl ?_
      | with_reducible first | refine fork_i (fun h => ?_) (fun h => ?_) | refine unroll 4 ?_ | refine both_i ?_ ?_
      | ((with_reducible refine alike_i ?_); exact ⟨rfl, rfl, rfl⟩)
      | ((with_reducible refine fin_i ?_); (conv => whnf); refine ⟨rfl, ?_⟩)
      | refine ⟨of_decide_eq_true rfl, ?_⟩
      | refine ⟨fun _ => of_decide_eq_true rfl, ?_⟩
      | ((with_reducible refine ⟨?_, ?_⟩); (focus (intros; simp_all; done)))
      | ((with_reducible refine ⟨?_, ?_⟩); (focus (intros; omega)))) <;> (try (conv => whnf)))
    all_goals ((with_reducible refine leaf_i ?_); (conv => whnf))
    repeat' ((with_reducible refine And.intro ?_ ?_) <;> (try (conv => whnf)))
    all_goals (try (first | with_reducible rfl | exact True.intro | rfl | exact id | exact fun h => h | exact fun _ => rfl))
    all_goals (simp [outS, hb, St.zero])
set_option maxHeartbeats 4000000 in
theorem c_out' : FnOk Try.prog 44 k_out.con := by
  refine fnOkS mixed tys_ok (cs := [(46, k_rT.con)]) ⟨c_rT', trivial⟩ Try.func44 rfl (by kernel_rfl) Try.ntmps44 _ (h := ?_)
  rintro ⟨d, e, x, y, z⟩
  refine ⟨rfl, fun hp => ?_⟩
  rcases d_cases d with rfl | rfl | rfl | rfl | hd
  iterate 4
    · conv => whnf
      repeat' ((first
        | with_reducible first | refine ⟨fun h => h, ?_⟩ | refine ⟨pk1, ?_⟩ | refine ⟨pk2, ?_⟩ | refine ⟨pk3, ?_⟩ | refine ⟨pk4, ?_⟩ | refine ⟨pk5, ?_⟩ | refine ⟨pk6, ?_⟩ | refine ⟨trivial, ?_⟩ | refine ⟨fun _ => trivial, ?_⟩ | refine ⟨rfl, ?_⟩ | refine every_i (fun hd => ?_) | refine everyN_i (fun k hk => ?_) | refine everyD_i (fun d hd => ?_) | refine fork_t (by assumption) ?_ | refine fork_f (by assumption) ?_
        | refine fork_t rfl ?_
        | refine fork_f rfl ?_
        | with_reducible first | refine fork_i (fun h => ?_) (fun h => ?_) | refine unroll 4 ?_ | refine both_i ?_ ?_
        | ((with_reducible refine alike_i ?_); exact ⟨rfl, rfl, rfl⟩)
        | ((with_reducible refine fin_i ?_); (conv => whnf); refine ⟨rfl, ?_⟩)
        | refine ⟨of_decide_eq_true rfl, ?_⟩
        | refine ⟨fun _ => of_decide_eq_true rfl, ?_⟩
        | ((with_reducible refine ⟨?_, ?_⟩); (focus (intros; simp_all; done)))
        | ((with_reducible refine ⟨?_, ?_⟩); (focus (intros; omega)))) <;> (try (conv => whnf)))
      all_goals ((with_reducible refine leaf_i ?_); (conv => whnf))
      repeat' ((with_reducible refine And.intro ?_ ?_) <;> (try (conv => whnf)))
      all_goals (try (first | with_reducible rfl | exact True.intro | rfl | exact id | exact fun h => h | exact fun _ => rfl))
      all_goals (simp only [outS, St.ok, St.zero, rT, decide_eq_true_eq]; split <;> first | rfl | (exfalso; (try simp [IntKind.wrap_i64, rT, St.ok] at *) <;> (unfold tOK at *; omega)) | (simp [IntKind.wrap_i64]; done) | trace_state)
  · have hb : (⟨d, e, x, y, z⟩ : St).ok = false := bad_d hd
    conv => whnf
    repeat' ((first
      | refine fork_t (by simp [hb]) ?_
      | with_reducible first | refine ⟨fun h => h, ?_⟩ | refine ⟨pk1, ?_⟩ | refine ⟨pk2, ?_⟩ | refine ⟨pk3, ?_⟩ | refine ⟨pk4, ?_⟩ | refine ⟨pk5, ?_⟩ | refine ⟨pk6, ?_⟩ | refine ⟨trivial, ?_⟩ | refine ⟨fun _ => trivial, ?_⟩ | refine ⟨rfl, ?_⟩ | refine every_i (fun hd => ?_) | refine everyN_i (fun k hk => ?_) | refine everyD_i (fun d hd => ?_) | refine fork_t (by assumption) ?_ | refine fork_f (by assumption) ?_
      | refine fork_t rfl ?_
      | refine fork_f rfl ?_
      | with_reducible first | refine fork_i (fun h => ?_) (fun h => ?_) | refine unroll 4 ?_ | refine both_i ?_ ?_
      | ((with_reducible refine alike_i ?_); exact ⟨rfl, rfl, rfl⟩)
      | ((with_reducible refine fin_i ?_); (conv => whnf); refine ⟨rfl, ?_⟩)
      | refine ⟨of_decide_eq_true rfl, ?_⟩
      | refine ⟨fun _ => of_decide_eq_true rfl, ?_⟩
      | ((with_reducible refine ⟨?_, ?_⟩); (focus (intros; simp_all; done)))
      | ((with_reducible refine ⟨?_, ?_⟩); (focus (intros; omega)))) <;> (try (conv => whnf)))
    all_goals ((with_reducible refine leaf_i ?_); (conv => whnf))
    repeat' ((with_reducible refine And.intro ?_ ?_) <;> (try (conv => whnf)))
    all_goals (try (first | with_reducible rfl | exact True.intro | rfl | exact id | exact fun h => h | exact fun _ => rfl))
    all_goals (simp [outS, hb, St.zero])
set_option maxHeartbeats 4000000 in
theorem c_into : FnOk Try.prog 40 k_into.con := by
  refine fnOkS mixed tys_ok (cs := [(27, k_rT.con)]) ⟨c_rT, trivial⟩ Try.func40 rfl (by kernel_rfl) Try.ntmps40 _ (h := ?_)
  rintro ⟨d, e, x, y, z⟩
  refine ⟨rfl, fun hp => ?_⟩
  have hp : i64r d := hp
  rcases d_cases d with rfl | rfl | rfl | rfl | hd
  iterate 4
    · conv => whnf
      repeat' ((first
        | with_reducible first | refine ⟨fun h => h, ?_⟩ | refine ⟨pk1, ?_⟩ | refine ⟨pk2, ?_⟩ | refine ⟨pk3, ?_⟩ | refine ⟨pk4, ?_⟩ | refine ⟨pk5, ?_⟩ | refine ⟨pk6, ?_⟩ | refine ⟨trivial, ?_⟩ | refine ⟨fun _ => trivial, ?_⟩ | refine ⟨rfl, ?_⟩ | refine every_i (fun hd => ?_) | refine everyN_i (fun k hk => ?_) | refine everyD_i (fun d hd => ?_) | refine fork_t (by assumption) ?_ | refine fork_f (by assumption) ?_
        | refine fork_t rfl ?_
        | refine fork_f rfl ?_
        | with_reducible first | refine fork_i (fun h => ?_) (fun h => ?_) | refine unroll 4 ?_ | refine both_i ?_ ?_
        | ((with_reducible refine alike_i ?_); exact ⟨rfl, rfl, rfl⟩)
        | ((with_reducible refine fin_i ?_); (conv => whnf); refine ⟨rfl, ?_⟩)
        | refine ⟨of_decide_eq_true rfl, ?_⟩
        | refine ⟨fun _ => of_decide_eq_true rfl, ?_⟩
        | ((with_reducible refine ⟨?_, ?_⟩); (focus (intros; simp_all; done)))
        | ((with_reducible refine ⟨?_, ?_⟩); (focus (intros; omega)))) <;> (try (conv => whnf)))
      all_goals ((with_reducible refine leaf_i ?_); (conv => whnf))
      repeat' ((with_reducible refine And.intro ?_ ?_) <;> (try (conv => whnf)))
      all_goals (try (first | with_reducible rfl | exact True.intro | rfl | exact id | exact fun h => h | exact fun _ => rfl))
      all_goals (simp only [inS, St.ok, St.zero, rT, decide_eq_true_eq]; split <;> first | rfl | (exfalso; (try simp [IntKind.wrap_i64, rT, St.ok] at *) <;> (unfold tOK at *; omega)) | (simp [IntKind.wrap_i64]; done) | trace_state)
  · have hb : (⟨d, e, x, y, z⟩ : St).ok = false := bad_d hd
    have hw : IntKind.i64.wrap (d + 1) < 1 ∨ IntKind.i64.wrap (d + 1) > 3 := by rw [IntKind.wrap_i64]; unfold i64r at hp; omega
    have hc : (bif (bif decide (IntKind.i64.wrap (d + 1) > 3) then true else !(⟨IntKind.i64.wrap (d + 1), e, x, y, z⟩ : St).ok) then true else decide (IntKind.i64.wrap (d + 1) < 1)) = true := by
      rw [show (⟨IntKind.i64.wrap (d + 1), e, x, y, z⟩ : St).ok = rT (IntKind.i64.wrap (d + 1)) e x y z from rfl]
      rcases hw with h | h
      · rw [decide_eq_true h]; simp
      · rw [decide_eq_true h]; simp
    have hix : ∀ X : Prop, ((bif (bif decide (IntKind.i64.wrap (d + 1) > 3) then true else !(⟨IntKind.i64.wrap (d + 1), e, x, y, z⟩ : St).ok) then true else decide (IntKind.i64.wrap (d + 1) < 1)) == false) = true → X := by
      rw [hc]; intro X h; cases h
    have hc2 : ∀ Y : Bool, (bif (bif (bif decide (IntKind.i64.wrap (d + 1) > 3) then true else !(⟨IntKind.i64.wrap (d + 1), e, x, y, z⟩ : St).ok) then true else decide (IntKind.i64.wrap (d + 1) < 1)) then true else Y) = true := by
      rw [hc]; intro Y; rfl
    conv => whnf
    repeat' ((first
      | refine ⟨hix _, ?_⟩
      | refine fork_t (hc2 _) ?_
      | with_reducible first | refine ⟨fun h => h, ?_⟩ | refine ⟨pk1, ?_⟩ | refine ⟨pk2, ?_⟩ | refine ⟨pk3, ?_⟩ | refine ⟨pk4, ?_⟩ | refine ⟨pk5, ?_⟩ | refine ⟨pk6, ?_⟩ | refine ⟨trivial, ?_⟩ | refine ⟨fun _ => trivial, ?_⟩ | refine ⟨rfl, ?_⟩ | refine every_i (fun hd => ?_) | refine everyN_i (fun k hk => ?_) | refine everyD_i (fun d hd => ?_) | refine fork_t (by assumption) ?_ | refine fork_f (by assumption) ?_
      | refine fork_t rfl ?_
      | refine fork_f rfl ?_
      | with_reducible first | refine fork_i (fun h => ?_) (fun h => ?_) | refine unroll 4 ?_ | refine both_i ?_ ?_
      | ((with_reducible refine alike_i ?_); exact ⟨rfl, rfl, rfl⟩)
      | ((with_reducible refine fin_i ?_); (conv => whnf); refine ⟨rfl, ?_⟩)
      | refine ⟨of_decide_eq_true rfl, ?_⟩
      | refine ⟨fun _ => of_decide_eq_true rfl, ?_⟩
      | ((with_reducible refine ⟨?_, ?_⟩); (focus (intros; simp_all; done)))
      | ((with_reducible refine ⟨?_, ?_⟩); (focus (intros; omega)))) <;> (try (conv => whnf)))
    dsimp only
    generalize hm : (IntKind.i64.wrap (IntKind.i64.wrap (d + 1) - 1)).toNat = m
    rcases m with _ | _ | _ | _ | _ | m
    all_goals (try simp only [show ∀ m : Nat, 0 + 2 + (m + 1 + 1 + 1 + 1 + 1) * 1 = m + 7 by intro m; omega])
    all_goals (
      conv => whnf
      repeat' ((first
        | refine ⟨hix _, ?_⟩
        | refine fork_t (hc2 _) ?_
        | with_reducible first | refine ⟨fun h => h, ?_⟩ | refine ⟨pk1, ?_⟩ | refine ⟨pk2, ?_⟩ | refine ⟨pk3, ?_⟩ | refine ⟨pk4, ?_⟩ | refine ⟨pk5, ?_⟩ | refine ⟨pk6, ?_⟩ | refine ⟨trivial, ?_⟩ | refine ⟨fun _ => trivial, ?_⟩ | refine ⟨rfl, ?_⟩ | refine every_i (fun hd => ?_) | refine everyN_i (fun k hk => ?_) | refine everyD_i (fun d hd => ?_) | refine fork_t (by assumption) ?_ | refine fork_f (by assumption) ?_
        | refine fork_t rfl ?_
        | refine fork_f rfl ?_
        | with_reducible first | refine fork_i (fun h => ?_) (fun h => ?_) | refine unroll 4 ?_ | refine both_i ?_ ?_
        | ((with_reducible refine alike_i ?_); exact ⟨rfl, rfl, rfl⟩)
        | ((with_reducible refine fin_i ?_); (conv => whnf); refine ⟨rfl, ?_⟩)
        | refine ⟨of_decide_eq_true rfl, ?_⟩
        | refine ⟨fun _ => of_decide_eq_true rfl, ?_⟩
        | ((with_reducible refine ⟨?_, ?_⟩); (focus (intros; simp_all; done)))
        | ((with_reducible refine ⟨?_, ?_⟩); (focus (intros; omega)))) <;> (try (conv => whnf))))
    all_goals ((with_reducible refine leaf_i ?_); (conv => whnf))
    repeat' ((with_reducible refine And.intro ?_ ?_) <;> (try (conv => whnf)))
    all_goals (try (first | with_reducible rfl | exact True.intro | rfl | exact id | exact fun h => h | exact fun _ => rfl))
    all_goals (simp only [inS, hb, St.zero, false_and, if_false, Bool.false_eq_true])
    all_goals (first | rfl | (exfalso; (try simp [IntKind.wrap_i64, rT, St.ok] at *) <;> (unfold tOK at *; unfold i64r at *; omega)) | trace_state)
set_option maxHeartbeats 4000000 in
theorem c_into' : FnOk Try.prog 43 k_into.con := by
  refine fnOkS mixed tys_ok (cs := [(46, k_rT.con)]) ⟨c_rT', trivial⟩ Try.func43 rfl (by kernel_rfl) Try.ntmps43 _ (h := ?_)
  rintro ⟨d, e, x, y, z⟩
  refine ⟨rfl, fun hp => ?_⟩
  have hp : i64r d := hp
  rcases d_cases d with rfl | rfl | rfl | rfl | hd
  iterate 4
    · conv => whnf
      repeat' ((first
        | with_reducible first | refine ⟨fun h => h, ?_⟩ | refine ⟨pk1, ?_⟩ | refine ⟨pk2, ?_⟩ | refine ⟨pk3, ?_⟩ | refine ⟨pk4, ?_⟩ | refine ⟨pk5, ?_⟩ | refine ⟨pk6, ?_⟩ | refine ⟨trivial, ?_⟩ | refine ⟨fun _ => trivial, ?_⟩ | refine ⟨rfl, ?_⟩ | refine every_i (fun hd => ?_) | refine everyN_i (fun k hk => ?_) | refine everyD_i (fun d hd => ?_) | refine fork_t (by assumption) ?_ | refine fork_f (by assumption) ?_
        | refine fork_t rfl ?_
        | refine fork_f rfl ?_
        | with_reducible first | refine fork_i (fun h => ?_) (fun h => ?_) | refine unroll 4 ?_ | refine both_i ?_ ?_
        | ((with_reducible refine alike_i ?_); exact ⟨rfl, rfl, rfl⟩)
        | ((with_reducible refine fin_i ?_); (conv => whnf); refine ⟨rfl, ?_⟩)
        | refine ⟨of_decide_eq_true rfl, ?_⟩
        | refine ⟨fun _ => of_decide_eq_true rfl, ?_⟩
        | ((with_reducible refine ⟨?_, ?_⟩); (focus (intros; simp_all; done)))
        | ((with_reducible refine ⟨?_, ?_⟩); (focus (intros; omega)))) <;> (try (conv => whnf)))
      all_goals ((with_reducible refine leaf_i ?_); (conv => whnf))
      repeat' ((with_reducible refine And.intro ?_ ?_) <;> (try (conv => whnf)))
      all_goals (try (first | with_reducible rfl | exact True.intro | rfl | exact id | exact fun h => h | exact fun _ => rfl))
      all_goals (simp only [inS, St.ok, St.zero, rT, decide_eq_true_eq]; split <;> first | rfl | (exfalso; (try simp [IntKind.wrap_i64, rT, St.ok] at *) <;> (unfold tOK at *; omega)) | (simp [IntKind.wrap_i64]; done) | trace_state)
  · have hb : (⟨d, e, x, y, z⟩ : St).ok = false := bad_d hd
    conv => whnf
    repeat' ((first
      | refine fork_t (by simp [hb]) ?_
      | with_reducible first | refine ⟨fun h => h, ?_⟩ | refine ⟨pk1, ?_⟩ | refine ⟨pk2, ?_⟩ | refine ⟨pk3, ?_⟩ | refine ⟨pk4, ?_⟩ | refine ⟨pk5, ?_⟩ | refine ⟨pk6, ?_⟩ | refine ⟨trivial, ?_⟩ | refine ⟨fun _ => trivial, ?_⟩ | refine ⟨rfl, ?_⟩ | refine every_i (fun hd => ?_) | refine everyN_i (fun k hk => ?_) | refine everyD_i (fun d hd => ?_) | refine fork_t (by assumption) ?_ | refine fork_f (by assumption) ?_
      | refine fork_t rfl ?_
      | refine fork_f rfl ?_
      | with_reducible first | refine fork_i (fun h => ?_) (fun h => ?_) | refine unroll 4 ?_ | refine both_i ?_ ?_
      | ((with_reducible refine alike_i ?_); exact ⟨rfl, rfl, rfl⟩)
      | ((with_reducible refine fin_i ?_); (conv => whnf); refine ⟨rfl, ?_⟩)
      | refine ⟨of_decide_eq_true rfl, ?_⟩
      | refine ⟨fun _ => of_decide_eq_true rfl, ?_⟩
      | ((with_reducible refine ⟨?_, ?_⟩); (focus (intros; simp_all; done)))
      | ((with_reducible refine ⟨?_, ?_⟩); (focus (intros; omega)))) <;> (try (conv => whnf)))
    all_goals ((with_reducible refine leaf_i ?_); (conv => whnf))
    repeat' ((with_reducible refine And.intro ?_ ?_) <;> (try (conv => whnf)))
    all_goals (try (first | with_reducible rfl | exact True.intro | rfl | exact id | exact fun h => h | exact fun _ => rfl))
    all_goals (simp only [inS, St.ok, St.zero, rT, decide_eq_true_eq]; split <;> first | rfl | (exfalso; (try simp [IntKind.wrap_i64, rT, St.ok] at *) <;> (unfold tOK at *; omega)) | (simp [IntKind.wrap_i64]; done) | trace_state)
set_option maxHeartbeats 4000000 in
theorem c_step : FnOk Try.prog 42 k_step.con := by
  refine fnOkS mixed tys_ok (cs := [(27, k_rT.con)]) ⟨c_rT, trivial⟩ Try.func42 rfl (by kernel_rfl) Try.ntmps42 _ (h := ?_)
  rintro ⟨d, e, x, y, z⟩
  refine ⟨rfl, fun hp => ?_⟩
  rcases d_cases d with rfl | rfl | rfl | rfl | hd
  iterate 4
    · conv => whnf
      repeat' ((first
        | with_reducible first | refine ⟨fun h => h, ?_⟩ | refine ⟨pk1, ?_⟩ | refine ⟨pk2, ?_⟩ | refine ⟨pk3, ?_⟩ | refine ⟨pk4, ?_⟩ | refine ⟨pk5, ?_⟩ | refine ⟨pk6, ?_⟩ | refine ⟨trivial, ?_⟩ | refine ⟨fun _ => trivial, ?_⟩ | refine ⟨rfl, ?_⟩ | refine every_i (fun hd => ?_) | refine everyN_i (fun k hk => ?_) | refine everyD_i (fun d hd => ?_) | refine fork_t (by assumption) ?_ | refine fork_f (by assumption) ?_
        | refine fork_t rfl ?_
        | refine fork_f rfl ?_
        | with_reducible first | refine fork_i (fun h => ?_) (fun h => ?_) | refine unroll 4 ?_ | refine both_i ?_ ?_
        | ((with_reducible refine alike_i ?_); exact ⟨rfl, rfl, rfl⟩)
        | ((with_reducible refine fin_i ?_); (conv => whnf); refine ⟨rfl, ?_⟩)
        | refine ⟨of_decide_eq_true rfl, ?_⟩
        | refine ⟨fun _ => of_decide_eq_true rfl, ?_⟩
        | ((with_reducible refine ⟨?_, ?_⟩); (focus (intros; simp_all; done)))
        | ((with_reducible refine ⟨?_, ?_⟩); (focus (intros; omega)))) <;> (try (conv => whnf)))
      all_goals ((with_reducible refine leaf_i ?_); (conv => whnf))
      repeat' ((with_reducible refine And.intro ?_ ?_) <;> (try (conv => whnf)))
      all_goals (try (first | with_reducible rfl | exact True.intro | rfl | exact id | exact fun h => h | exact fun _ => rfl))
      all_goals (simp only [stS, upS, St.ok, St.zero, rT, decide_eq_true_eq])
      all_goals (simp only [if_pos, show ¬ ((1:Int) = 2) by decide, show ¬ ((1:Int) = 3) by decide, show ¬ ((2:Int) = 1) by decide, show ¬ ((2:Int) = 3) by decide, show ¬ ((3:Int) = 1) by decide, show ¬ ((3:Int) = 2) by decide, show ¬ ((0:Int) = 1) by decide, show ¬ ((0:Int) = 2) by decide, show ¬ ((0:Int) = 3) by decide, if_false])
      all_goals (split <;> first | rfl | (exfalso; (try simp [IntKind.wrap_i64, rT, St.ok] at *) <;> (unfold tOK at *; omega)) | ((try simp [IntKind.wrap_i64, rT, St.ok] at *) <;> (unfold tOK at *; omega)) | trace_state)
  · have hb : (⟨d, e, x, y, z⟩ : St).ok = false := bad_d hd
    conv => whnf
    repeat' ((first
      | refine fork_t (by simp [hb]) ?_
      | with_reducible first | refine ⟨fun h => h, ?_⟩ | refine ⟨pk1, ?_⟩ | refine ⟨pk2, ?_⟩ | refine ⟨pk3, ?_⟩ | refine ⟨pk4, ?_⟩ | refine ⟨pk5, ?_⟩ | refine ⟨pk6, ?_⟩ | refine ⟨trivial, ?_⟩ | refine ⟨fun _ => trivial, ?_⟩ | refine ⟨rfl, ?_⟩ | refine every_i (fun hd => ?_) | refine everyN_i (fun k hk => ?_) | refine everyD_i (fun d hd => ?_) | refine fork_t (by assumption) ?_ | refine fork_f (by assumption) ?_
      | refine fork_t rfl ?_
      | refine fork_f rfl ?_
      | with_reducible first | refine fork_i (fun h => ?_) (fun h => ?_) | refine unroll 4 ?_ | refine both_i ?_ ?_
      | ((with_reducible refine alike_i ?_); exact ⟨rfl, rfl, rfl⟩)
      | ((with_reducible refine fin_i ?_); (conv => whnf); refine ⟨rfl, ?_⟩)
      | refine ⟨of_decide_eq_true rfl, ?_⟩
      | refine ⟨fun _ => of_decide_eq_true rfl, ?_⟩
      | ((with_reducible refine ⟨?_, ?_⟩); (focus (intros; simp_all; done)))
      | ((with_reducible refine ⟨?_, ?_⟩); (focus (intros; omega)))) <;> (try (conv => whnf)))
    all_goals ((with_reducible refine leaf_i ?_); (conv => whnf))
    repeat' ((with_reducible refine And.intro ?_ ?_) <;> (try (conv => whnf)))
    all_goals (try (first | with_reducible rfl | exact True.intro | rfl | exact id | exact fun h => h | exact fun _ => rfl))
    all_goals (simp [stS, hb, St.zero])
set_option maxHeartbeats 4000000 in
theorem c_step' : FnOk Try.prog 45 k_step.con := by
  refine fnOkS mixed tys_ok (cs := [(46, k_rT.con)]) ⟨c_rT', trivial⟩ Try.func45 rfl (by kernel_rfl) Try.ntmps45 _ (h := ?_)
  rintro ⟨d, e, x, y, z⟩
  refine ⟨rfl, fun hp => ?_⟩
  rcases d_cases d with rfl | rfl | rfl | rfl | hd
  iterate 4
    · conv => whnf
      repeat' ((first
        | with_reducible first | refine ⟨fun h => h, ?_⟩ | refine ⟨pk1, ?_⟩ | refine ⟨pk2, ?_⟩ | refine ⟨pk3, ?_⟩ | refine ⟨pk4, ?_⟩ | refine ⟨pk5, ?_⟩ | refine ⟨pk6, ?_⟩ | refine ⟨trivial, ?_⟩ | refine ⟨fun _ => trivial, ?_⟩ | refine ⟨rfl, ?_⟩ | refine every_i (fun hd => ?_) | refine everyN_i (fun k hk => ?_) | refine everyD_i (fun d hd => ?_) | refine fork_t (by assumption) ?_ | refine fork_f (by assumption) ?_
        | refine fork_t rfl ?_
        | refine fork_f rfl ?_
        | with_reducible first | refine fork_i (fun h => ?_) (fun h => ?_) | refine unroll 4 ?_ | refine both_i ?_ ?_
        | ((with_reducible refine alike_i ?_); exact ⟨rfl, rfl, rfl⟩)
        | ((with_reducible refine fin_i ?_); (conv => whnf); refine ⟨rfl, ?_⟩)
        | refine ⟨of_decide_eq_true rfl, ?_⟩
        | refine ⟨fun _ => of_decide_eq_true rfl, ?_⟩
        | ((with_reducible refine ⟨?_, ?_⟩); (focus (intros; simp_all; done)))
        | ((with_reducible refine ⟨?_, ?_⟩); (focus (intros; omega)))) <;> (try (conv => whnf)))
      all_goals ((with_reducible refine leaf_i ?_); (conv => whnf))
      repeat' ((with_reducible refine And.intro ?_ ?_) <;> (try (conv => whnf)))
      all_goals (try (first | with_reducible rfl | exact True.intro | rfl | exact id | exact fun h => h | exact fun _ => rfl))
      all_goals (simp only [stS, upS, St.ok, St.zero, rT, decide_eq_true_eq])
      all_goals (simp only [if_pos, show ¬ ((1:Int) = 2) by decide, show ¬ ((1:Int) = 3) by decide, show ¬ ((2:Int) = 1) by decide, show ¬ ((2:Int) = 3) by decide, show ¬ ((3:Int) = 1) by decide, show ¬ ((3:Int) = 2) by decide, show ¬ ((0:Int) = 1) by decide, show ¬ ((0:Int) = 2) by decide, show ¬ ((0:Int) = 3) by decide, if_false])
      all_goals (split <;> first | rfl | (exfalso; (try simp [IntKind.wrap_i64, rT, St.ok] at *) <;> (unfold tOK at *; omega)) | ((try simp [IntKind.wrap_i64, rT, St.ok] at *) <;> (unfold tOK at *; omega)) | trace_state)
  · have hb : (⟨d, e, x, y, z⟩ : St).ok = false := bad_d hd
    have hc : (bif !(⟨d, e, x, y, z⟩ : St).ok then true else decide (d < 1)) = true := by rw [hb]; rfl
    have hix : ∀ X : Prop, ((bif !(⟨d, e, x, y, z⟩ : St).ok then true else decide (d < 1)) == false) = true → X := by
      rw [hc]; intro X h; cases h
    have hc2 : ∀ Y : Bool, (bif (bif !(⟨d, e, x, y, z⟩ : St).ok then true else decide (d < 1)) then true else Y) = true := by
      rw [hc]; intro Y; rfl
    conv => whnf
    repeat' ((first
      | refine ⟨hix _, ?_⟩
      | refine fork_t (hc2 _) ?_
      | with_reducible first | refine ⟨fun h => h, ?_⟩ | refine ⟨pk1, ?_⟩ | refine ⟨pk2, ?_⟩ | refine ⟨pk3, ?_⟩ | refine ⟨pk4, ?_⟩ | refine ⟨pk5, ?_⟩ | refine ⟨pk6, ?_⟩ | refine ⟨trivial, ?_⟩ | refine ⟨fun _ => trivial, ?_⟩ | refine ⟨rfl, ?_⟩ | refine every_i (fun hd => ?_) | refine everyN_i (fun k hk => ?_) | refine everyD_i (fun d hd => ?_) | refine fork_t (by assumption) ?_ | refine fork_f (by assumption) ?_
      | refine fork_t rfl ?_
      | refine fork_f rfl ?_
      | with_reducible first | refine fork_i (fun h => ?_) (fun h => ?_) | refine unroll 4 ?_ | refine both_i ?_ ?_
      | ((with_reducible refine alike_i ?_); exact ⟨rfl, rfl, rfl⟩)
      | ((with_reducible refine fin_i ?_); (conv => whnf); refine ⟨rfl, ?_⟩)
      | refine ⟨of_decide_eq_true rfl, ?_⟩
      | refine ⟨fun _ => of_decide_eq_true rfl, ?_⟩
      | ((with_reducible refine ⟨?_, ?_⟩); (focus (intros; simp_all; done)))
      | ((with_reducible refine ⟨?_, ?_⟩); (focus (intros; omega)))) <;> (try (conv => whnf)))
    dsimp only
    generalize hm : (IntKind.i64.wrap (d - 1)).toNat = m
    rcases m with _ | _ | _ | _ | _ | m
    all_goals (try simp only [show ∀ m : Nat, 0 + 2 + (m + 1 + 1 + 1 + 1 + 1) * 1 = m + 7 by intro m; omega])
    all_goals (
      conv => whnf
      repeat' ((first
        | refine ⟨hix _, ?_⟩
        | refine fork_t (hc2 _) ?_
        | with_reducible first | refine ⟨fun h => h, ?_⟩ | refine ⟨pk1, ?_⟩ | refine ⟨pk2, ?_⟩ | refine ⟨pk3, ?_⟩ | refine ⟨pk4, ?_⟩ | refine ⟨pk5, ?_⟩ | refine ⟨pk6, ?_⟩ | refine ⟨trivial, ?_⟩ | refine ⟨fun _ => trivial, ?_⟩ | refine ⟨rfl, ?_⟩ | refine every_i (fun hd => ?_) | refine everyN_i (fun k hk => ?_) | refine everyD_i (fun d hd => ?_) | refine fork_t (by assumption) ?_ | refine fork_f (by assumption) ?_
        | refine fork_t rfl ?_
        | refine fork_f rfl ?_
        | with_reducible first | refine fork_i (fun h => ?_) (fun h => ?_) | refine unroll 4 ?_ | refine both_i ?_ ?_
        | ((with_reducible refine alike_i ?_); exact ⟨rfl, rfl, rfl⟩)
        | ((with_reducible refine fin_i ?_); (conv => whnf); refine ⟨rfl, ?_⟩)
        | refine ⟨of_decide_eq_true rfl, ?_⟩
        | refine ⟨fun _ => of_decide_eq_true rfl, ?_⟩
        | ((with_reducible refine ⟨?_, ?_⟩); (focus (intros; simp_all; done)))
        | ((with_reducible refine ⟨?_, ?_⟩); (focus (intros; omega)))) <;> (try (conv => whnf))))
    all_goals ((with_reducible refine leaf_i ?_); (conv => whnf))
    repeat' ((with_reducible refine And.intro ?_ ?_) <;> (try (conv => whnf)))
    all_goals (try (first | with_reducible rfl | exact True.intro | rfl | exact id | exact fun h => h | exact fun _ => rfl))
    all_goals (simp [stS, hb, St.zero])
end Go.Proofs.Ytgmbmpojcnmcgaa

/- Layer 13's small functions: Waits, arity, Time, few. -/
namespace Go.Proofs.Ytgmbmpojcnmcgaa
set_option maxRecDepth 100000
open Go Go.RowKit Go.Proofs.Ytgmbmpojcnmcgaa.Eng
def waitsB (k : Int) : Bool := decide (k = 5 ∨ k = 6)
def k_waits : Sig := .arg (shK .u8) fun k => .done { pre := True, res := B (waitsB k) }
theorem c_waits : FnOk Try.prog 17 k_waits.con := by
  refine fnOkS mixed tys_ok (cs := []) trivial Try.func17 rfl (by kernel_rfl) Try.ntmps17 _ (h := ?_)
  intro k
  refine ⟨rfl, fun _ => ?_⟩
  conv => whnf
  repeat' ((first
    | with_reducible first | refine ⟨fun h => h, ?_⟩ | refine ⟨pk1, ?_⟩ | refine ⟨pk2, ?_⟩ | refine ⟨pk3, ?_⟩ | refine ⟨pk4, ?_⟩ | refine ⟨pk5, ?_⟩ | refine ⟨pk6, ?_⟩ | refine ⟨trivial, ?_⟩ | refine ⟨fun _ => trivial, ?_⟩ | refine ⟨rfl, ?_⟩ | refine every_i (fun hd => ?_) | refine everyN_i (fun k hk => ?_) | refine everyD_i (fun d hd => ?_) | refine fork_t (by assumption) ?_ | refine fork_f (by assumption) ?_
    | refine fork_t rfl ?_
    | refine fork_f rfl ?_
    | with_reducible first | refine fork_i (fun h => ?_) (fun h => ?_) | refine both_i ?_ ?_
    | ((with_reducible refine alike_i ?_); exact ⟨rfl, rfl, rfl⟩)
    | ((with_reducible refine fin_i ?_); (conv => whnf); refine ⟨rfl, ?_⟩)
    | refine ⟨of_decide_eq_true rfl, ?_⟩
    | refine ⟨fun _ => of_decide_eq_true rfl, ?_⟩
    | ((with_reducible refine ⟨?_, ?_⟩); (focus (intros; simp_all; done)))
    | ((with_reducible refine ⟨?_, ?_⟩); (focus (intros; omega)))) <;> (try (conv => whnf)))
  all_goals ((with_reducible refine leaf_i ?_); (conv => whnf))
  repeat' ((with_reducible refine And.intro ?_ ?_) <;> (try (conv => whnf)))
  all_goals (try (first | with_reducible rfl | exact True.intro | rfl | exact id | exact fun h => h | exact fun _ => rfl))
  all_goals (unfold waitsB; rw [Bool.eq_iff_iff]; simp)
theorem c_waits' : FnOk Try.prog 18 k_waits.con := by
  refine fnOkS mixed tys_ok (cs := []) trivial Try.func18 rfl (by kernel_rfl) Try.ntmps18 _ (h := ?_)
  intro k
  refine ⟨rfl, fun _ => ?_⟩
  conv => whnf
  repeat' ((first
    | with_reducible first | refine ⟨fun h => h, ?_⟩ | refine ⟨pk1, ?_⟩ | refine ⟨pk2, ?_⟩ | refine ⟨pk3, ?_⟩ | refine ⟨pk4, ?_⟩ | refine ⟨pk5, ?_⟩ | refine ⟨pk6, ?_⟩ | refine ⟨trivial, ?_⟩ | refine ⟨fun _ => trivial, ?_⟩ | refine ⟨rfl, ?_⟩ | refine every_i (fun hd => ?_) | refine everyN_i (fun k hk => ?_) | refine everyD_i (fun d hd => ?_) | refine fork_t (by assumption) ?_ | refine fork_f (by assumption) ?_
    | refine fork_t rfl ?_
    | refine fork_f rfl ?_
    | with_reducible first | refine fork_i (fun h => ?_) (fun h => ?_) | refine both_i ?_ ?_
    | ((with_reducible refine alike_i ?_); exact ⟨rfl, rfl, rfl⟩)
    | ((with_reducible refine fin_i ?_); (conv => whnf); refine ⟨rfl, ?_⟩)
    | refine ⟨of_decide_eq_true rfl, ?_⟩
    | refine ⟨fun _ => of_decide_eq_true rfl, ?_⟩
    | ((with_reducible refine ⟨?_, ?_⟩); (focus (intros; simp_all; done)))
    | ((with_reducible refine ⟨?_, ?_⟩); (focus (intros; omega)))) <;> (try (conv => whnf)))
  all_goals ((with_reducible refine leaf_i ?_); (conv => whnf))
  repeat' ((with_reducible refine And.intro ?_ ?_) <;> (try (conv => whnf)))
  all_goals (try (first | with_reducible rfl | exact True.intro | rfl | exact id | exact fun h => h | exact fun _ => rfl))
  all_goals (unfold waitsB; rw [Bool.eq_iff_iff]; simp)
def arityN (k : Int) : Int := if k = 1 then 0 else if k = 4 ∨ k = 6 then 2 else 1
def k_oarity : Sig := .arg (shK .u8) fun k => .done { pre := True, res := I (arityN k) }
theorem c_oarity : FnOk Try.prog 30 k_oarity.con := by
  refine fnOkS mixed tys_ok (cs := []) trivial Try.func30 rfl (by kernel_rfl) Try.ntmps30 _ (h := ?_)
  intro k
  refine ⟨rfl, fun _ => ?_⟩
  conv => whnf
  repeat' ((first
    | with_reducible first | refine ⟨fun h => h, ?_⟩ | refine ⟨pk1, ?_⟩ | refine ⟨pk2, ?_⟩ | refine ⟨pk3, ?_⟩ | refine ⟨pk4, ?_⟩ | refine ⟨pk5, ?_⟩ | refine ⟨pk6, ?_⟩ | refine ⟨trivial, ?_⟩ | refine ⟨fun _ => trivial, ?_⟩ | refine ⟨rfl, ?_⟩ | refine every_i (fun hd => ?_) | refine everyN_i (fun k hk => ?_) | refine everyD_i (fun d hd => ?_) | refine fork_t (by assumption) ?_ | refine fork_f (by assumption) ?_
    | refine fork_t rfl ?_
    | refine fork_f rfl ?_
    | with_reducible first | refine fork_i (fun h => ?_) (fun h => ?_) | refine both_i ?_ ?_
    | ((with_reducible refine alike_i ?_); exact ⟨rfl, rfl, rfl⟩)
    | ((with_reducible refine fin_i ?_); (conv => whnf); refine ⟨rfl, ?_⟩)
    | refine ⟨of_decide_eq_true rfl, ?_⟩
    | refine ⟨fun _ => of_decide_eq_true rfl, ?_⟩
    | ((with_reducible refine ⟨?_, ?_⟩); (focus (intros; simp_all; done)))
    | ((with_reducible refine ⟨?_, ?_⟩); (focus (intros; omega)))) <;> (try (conv => whnf)))
  all_goals ((with_reducible refine leaf_i ?_); (conv => whnf))
  repeat' ((with_reducible refine And.intro ?_ ?_) <;> (try (conv => whnf)))
  all_goals (try (first | with_reducible rfl | exact True.intro | rfl | exact id | exact fun h => h | exact fun _ => rfl))
  all_goals (simp at *; simp [arityN, *])
def timeN (n : Nd) (t : St) : St × Bool :=
  if n.kind = 7 then inS t else if n.kind = 8 then outS t
  else if n.kind = 9 then (if (stS t).2 = true ∧ (stS t).1.at ((stS t).1.d - 1) < n.b then stS t else (St.zero, false))
  else if t.ok = true then (t, true) else (St.zero, false)
theorem stS_d {t : St} (h : (stS t).2 = true) : 1 ≤ (stS t).1.d ∧ (stS t).1.d ≤ 3 := by
  unfold stS at h ⊢
  split at h
  · rename_i hh
    rw [if_pos hh]
    have h1 := rT_ok hh.1
    unfold tOK at h1
    have h2 := hh.2.1
    show 1 ≤ t.d ∧ t.d ≤ 3
    omega
  · cases h
def k_time : Sig := .arg (shT tN) fun n => .arg shSt fun t => .done { pre := i64r t.d, res := pP (pSt (timeN n t).1) (B (timeN n t).2) }
set_option maxHeartbeats 4000000 in
theorem c_time : FnOk Try.prog 19 k_time.con := by
  refine fnOkS mixed tys_ok (cs := [(40, k_into.con), (41, k_out.con), (42, k_step.con), (27, k_rT.con)]) ⟨c_into, c_out, c_step, c_rT, trivial⟩ Try.func19 rfl (by kernel_rfl) Try.ntmps19 _ (h := ?_)
  rintro n ⟨d, e, x, y, z⟩
  refine ⟨rfl, fun hp => ?_⟩
  have hp : i64r d := hp
  by_cases h9 : n.1 = 9
  · have hk : (n.1 == 9) = true := by rw [h9]; rfl
    obtain ⟨ud, ue, ua, ub, uc, ok, hu, hud⟩ : ∃ ud ue ua ub uc ok, stS ⟨d, e, x, y, z⟩ = (⟨ud, ue, ua, ub, uc⟩, ok) ∧ (ok = true ∧ (ud = 1 ∨ ud = 2 ∨ ud = 3) ∨ ok = false ∧ ud = 0) := by
      refine ⟨(stS ⟨d, e, x, y, z⟩).1.d, _, _, _, _, (stS ⟨d, e, x, y, z⟩).2, rfl, ?_⟩
      cases hb : (stS ⟨d, e, x, y, z⟩).2
      · refine .inr ⟨rfl, ?_⟩
        unfold stS at hb ⊢
        split at hb
        · cases hb
        · rename_i hn; rw [if_neg hn]; rfl
      · have := stS_d hb
        exact .inl ⟨rfl, by omega⟩
    have ht : timeN n ⟨d, e, x, y, z⟩ = if ok = true ∧ (⟨ud, ue, ua, ub, uc⟩ : St).at (ud - 1) < Nd.b n then (⟨ud, ue, ua, ub, uc⟩, ok) else (St.zero, false) := by
      unfold timeN; rw [show Nd.kind n = 9 from h9, hu]; rfl
    conv => whnf
    repeat' ((first
      | refine fork_t (by rw [h9]; rfl) ?_
      | refine fork_f (by rw [h9]; rfl) ?_
      | with_reducible first | refine ⟨fun h => h, ?_⟩ | refine ⟨pk1, ?_⟩ | refine ⟨pk2, ?_⟩ | refine ⟨pk3, ?_⟩ | refine ⟨pk4, ?_⟩ | refine ⟨pk5, ?_⟩ | refine ⟨pk6, ?_⟩ | refine ⟨trivial, ?_⟩ | refine ⟨fun _ => trivial, ?_⟩ | refine ⟨rfl, ?_⟩ | refine every_i (fun hd => ?_) | refine everyN_i (fun k hk => ?_) | refine everyD_i (fun d hd => ?_) | refine fork_t (by assumption) ?_ | refine fork_f (by assumption) ?_
      | refine fork_t rfl ?_
      | refine fork_f rfl ?_
      | with_reducible first | refine fork_i (fun h => ?_) (fun h => ?_) | refine both_i ?_ ?_
      | ((with_reducible refine alike_i ?_); exact ⟨rfl, rfl, rfl⟩)
      | ((with_reducible refine fin_i ?_); (conv => whnf); refine ⟨rfl, ?_⟩)
      | refine ⟨of_decide_eq_true rfl, ?_⟩
      | refine ⟨fun _ => of_decide_eq_true rfl, ?_⟩
      | ((with_reducible refine ⟨?_, ?_⟩); (focus (intros; simp_all; done)))
      | ((with_reducible refine ⟨?_, ?_⟩); (focus (intros; omega)))) <;> (try (conv => whnf)))
    dsimp only
    try simp only [hu]
    rcases hud with ⟨rfl, rfl | rfl | rfl⟩ | ⟨rfl, rfl⟩
    all_goals (
      conv => whnf
      repeat' ((first
        | with_reducible first | refine ⟨fun h => h, ?_⟩ | refine ⟨pk1, ?_⟩ | refine ⟨pk2, ?_⟩ | refine ⟨pk3, ?_⟩ | refine ⟨pk4, ?_⟩ | refine ⟨pk5, ?_⟩ | refine ⟨pk6, ?_⟩ | refine ⟨trivial, ?_⟩ | refine ⟨fun _ => trivial, ?_⟩ | refine ⟨rfl, ?_⟩ | refine every_i (fun hd => ?_) | refine everyN_i (fun k hk => ?_) | refine everyD_i (fun d hd => ?_) | refine fork_t (by assumption) ?_ | refine fork_f (by assumption) ?_
        | refine fork_t rfl ?_
        | refine fork_f rfl ?_
        | with_reducible first | refine fork_i (fun h => ?_) (fun h => ?_) | refine both_i ?_ ?_
        | ((with_reducible refine alike_i ?_); exact ⟨rfl, rfl, rfl⟩)
        | ((with_reducible refine fin_i ?_); (conv => whnf); refine ⟨rfl, ?_⟩)
        | refine ⟨fun _ => of_decide_eq_true rfl, ?_⟩
        | refine ⟨of_decide_eq_true rfl, ?_⟩
        | refine ⟨fun _ => of_decide_eq_true rfl, ?_⟩
        | ((with_reducible refine ⟨?_, ?_⟩); (focus (intros; simp_all; done)))
        | ((with_reducible refine ⟨?_, ?_⟩); (focus (intros; omega)))) <;> (try (conv => whnf))))
    all_goals ((with_reducible refine leaf_i ?_); (conv => whnf))
    repeat' ((with_reducible refine And.intro ?_ ?_) <;> (try (conv => whnf)))
    all_goals (try (first | with_reducible rfl | exact True.intro | rfl | exact id | exact fun h => h | exact fun _ => rfl))
    all_goals (try (simp at *))
    all_goals (try (rw [ht]))
    all_goals (try (simp [St.at, Nd.b, St.zero, *]))
    all_goals (try (split <;> first | rfl | omega))
  · conv => whnf
    repeat' ((first
      | refine fork_f (beq_false_of_ne h9) ?_
      | with_reducible first | refine ⟨fun h => h, ?_⟩ | refine ⟨pk1, ?_⟩ | refine ⟨pk2, ?_⟩ | refine ⟨pk3, ?_⟩ | refine ⟨pk4, ?_⟩ | refine ⟨pk5, ?_⟩ | refine ⟨pk6, ?_⟩ | refine ⟨trivial, ?_⟩ | refine ⟨fun _ => trivial, ?_⟩ | refine ⟨rfl, ?_⟩ | refine every_i (fun hd => ?_) | refine everyN_i (fun k hk => ?_) | refine everyD_i (fun d hd => ?_) | refine fork_t (by assumption) ?_ | refine fork_f (by assumption) ?_
      | refine fork_t rfl ?_
      | refine fork_f rfl ?_
      | with_reducible first | refine fork_i (fun h => ?_) (fun h => ?_) | refine both_i ?_ ?_
      | ((with_reducible refine alike_i ?_); exact ⟨rfl, rfl, rfl⟩)
      | ((with_reducible refine fin_i ?_); (conv => whnf); refine ⟨rfl, ?_⟩)
      | refine ⟨hp, ?_⟩
      | refine ⟨of_decide_eq_true rfl, ?_⟩
      | refine ⟨fun _ => of_decide_eq_true rfl, ?_⟩
      | ((with_reducible refine ⟨?_, ?_⟩); (focus (intros; simp_all; done)))
      | ((with_reducible refine ⟨?_, ?_⟩); (focus (intros; omega)))) <;> (try (conv => whnf)))
    all_goals ((with_reducible refine leaf_i ?_); (conv => whnf))
    repeat' ((with_reducible refine And.intro ?_ ?_) <;> (try (conv => whnf)))
    all_goals (try (first | with_reducible rfl | exact True.intro | rfl | exact id | exact fun h => h | exact fun _ => rfl))
    all_goals (try (simp at *))
    all_goals (try (simp [timeN, Nd.kind, St.zero, *]))
    all_goals (try (split <;> first | rfl | omega | simp_all))
set_option maxHeartbeats 4000000 in
theorem c_time' : FnOk Try.prog 20 k_time.con := by
  refine fnOkS mixed tys_ok (cs := [(43, k_into.con), (44, k_out.con), (45, k_step.con), (46, k_rT.con)]) ⟨c_into', c_out', c_step', c_rT', trivial⟩ Try.func20 rfl (by kernel_rfl) Try.ntmps20 _ (h := ?_)
  rintro n ⟨d, e, x, y, z⟩
  refine ⟨rfl, fun hp => ?_⟩
  have hp : i64r d := hp
  by_cases h9 : n.1 = 9
  · have hk : (n.1 == 9) = true := by rw [h9]; rfl
    obtain ⟨ud, ue, ua, ub, uc, ok, hu, hud⟩ : ∃ ud ue ua ub uc ok, stS ⟨d, e, x, y, z⟩ = (⟨ud, ue, ua, ub, uc⟩, ok) ∧ (ok = true ∧ (ud = 1 ∨ ud = 2 ∨ ud = 3) ∨ ok = false ∧ ud = 0) := by
      refine ⟨(stS ⟨d, e, x, y, z⟩).1.d, _, _, _, _, (stS ⟨d, e, x, y, z⟩).2, rfl, ?_⟩
      cases hb : (stS ⟨d, e, x, y, z⟩).2
      · refine .inr ⟨rfl, ?_⟩
        unfold stS at hb ⊢
        split at hb
        · cases hb
        · rename_i hn; rw [if_neg hn]; rfl
      · have := stS_d hb
        exact .inl ⟨rfl, by omega⟩
    have ht : timeN n ⟨d, e, x, y, z⟩ = if ok = true ∧ (⟨ud, ue, ua, ub, uc⟩ : St).at (ud - 1) < Nd.b n then (⟨ud, ue, ua, ub, uc⟩, ok) else (St.zero, false) := by
      unfold timeN; rw [show Nd.kind n = 9 from h9, hu]; rfl
    conv => whnf
    repeat' ((first
      | refine fork_t (by rw [h9]; rfl) ?_
      | refine fork_f (by rw [h9]; rfl) ?_
      | with_reducible first | refine ⟨fun h => h, ?_⟩ | refine ⟨pk1, ?_⟩ | refine ⟨pk2, ?_⟩ | refine ⟨pk3, ?_⟩ | refine ⟨pk4, ?_⟩ | refine ⟨pk5, ?_⟩ | refine ⟨pk6, ?_⟩ | refine ⟨trivial, ?_⟩ | refine ⟨fun _ => trivial, ?_⟩ | refine ⟨rfl, ?_⟩ | refine every_i (fun hd => ?_) | refine everyN_i (fun k hk => ?_) | refine everyD_i (fun d hd => ?_) | refine fork_t (by assumption) ?_ | refine fork_f (by assumption) ?_
      | refine fork_t rfl ?_
      | refine fork_f rfl ?_
      | with_reducible first | refine fork_i (fun h => ?_) (fun h => ?_) | refine both_i ?_ ?_
      | ((with_reducible refine alike_i ?_); exact ⟨rfl, rfl, rfl⟩)
      | ((with_reducible refine fin_i ?_); (conv => whnf); refine ⟨rfl, ?_⟩)
      | refine ⟨of_decide_eq_true rfl, ?_⟩
      | refine ⟨fun _ => of_decide_eq_true rfl, ?_⟩
      | ((with_reducible refine ⟨?_, ?_⟩); (focus (intros; simp_all; done)))
      | ((with_reducible refine ⟨?_, ?_⟩); (focus (intros; omega)))) <;> (try (conv => whnf)))
    dsimp only
    try simp only [hu]
    rcases hud with ⟨rfl, rfl | rfl | rfl⟩ | ⟨rfl, rfl⟩
    all_goals (
      conv => whnf
      repeat' ((first
        | with_reducible first | refine ⟨fun h => h, ?_⟩ | refine ⟨pk1, ?_⟩ | refine ⟨pk2, ?_⟩ | refine ⟨pk3, ?_⟩ | refine ⟨pk4, ?_⟩ | refine ⟨pk5, ?_⟩ | refine ⟨pk6, ?_⟩ | refine ⟨trivial, ?_⟩ | refine ⟨fun _ => trivial, ?_⟩ | refine ⟨rfl, ?_⟩ | refine every_i (fun hd => ?_) | refine everyN_i (fun k hk => ?_) | refine everyD_i (fun d hd => ?_) | refine fork_t (by assumption) ?_ | refine fork_f (by assumption) ?_
        | refine fork_t rfl ?_
        | refine fork_f rfl ?_
        | with_reducible first | refine fork_i (fun h => ?_) (fun h => ?_) | refine both_i ?_ ?_
        | ((with_reducible refine alike_i ?_); exact ⟨rfl, rfl, rfl⟩)
        | ((with_reducible refine fin_i ?_); (conv => whnf); refine ⟨rfl, ?_⟩)
        | refine ⟨fun _ => of_decide_eq_true rfl, ?_⟩
        | refine ⟨of_decide_eq_true rfl, ?_⟩
        | refine ⟨fun _ => of_decide_eq_true rfl, ?_⟩
        | ((with_reducible refine ⟨?_, ?_⟩); (focus (intros; simp_all; done)))
        | ((with_reducible refine ⟨?_, ?_⟩); (focus (intros; omega)))) <;> (try (conv => whnf))))
    all_goals ((with_reducible refine leaf_i ?_); (conv => whnf))
    repeat' ((with_reducible refine And.intro ?_ ?_) <;> (try (conv => whnf)))
    all_goals (try (first | with_reducible rfl | exact True.intro | rfl | exact id | exact fun h => h | exact fun _ => rfl))
    all_goals (try (simp at *))
    all_goals (try (rw [ht]))
    all_goals (try (simp [St.at, Nd.b, St.zero, *]))
    all_goals (try (split <;> first | rfl | omega))
  · conv => whnf
    repeat' ((first
      | refine fork_f (beq_false_of_ne h9) ?_
      | with_reducible first | refine ⟨fun h => h, ?_⟩ | refine ⟨pk1, ?_⟩ | refine ⟨pk2, ?_⟩ | refine ⟨pk3, ?_⟩ | refine ⟨pk4, ?_⟩ | refine ⟨pk5, ?_⟩ | refine ⟨pk6, ?_⟩ | refine ⟨trivial, ?_⟩ | refine ⟨fun _ => trivial, ?_⟩ | refine ⟨rfl, ?_⟩ | refine every_i (fun hd => ?_) | refine everyN_i (fun k hk => ?_) | refine everyD_i (fun d hd => ?_) | refine fork_t (by assumption) ?_ | refine fork_f (by assumption) ?_
      | refine fork_t rfl ?_
      | refine fork_f rfl ?_
      | with_reducible first | refine fork_i (fun h => ?_) (fun h => ?_) | refine both_i ?_ ?_
      | ((with_reducible refine alike_i ?_); exact ⟨rfl, rfl, rfl⟩)
      | ((with_reducible refine fin_i ?_); (conv => whnf); refine ⟨rfl, ?_⟩)
      | refine ⟨hp, ?_⟩
      | refine ⟨of_decide_eq_true rfl, ?_⟩
      | refine ⟨fun _ => of_decide_eq_true rfl, ?_⟩
      | ((with_reducible refine ⟨?_, ?_⟩); (focus (intros; simp_all; done)))
      | ((with_reducible refine ⟨?_, ?_⟩); (focus (intros; omega)))) <;> (try (conv => whnf)))
    all_goals ((with_reducible refine leaf_i ?_); (conv => whnf))
    repeat' ((with_reducible refine And.intro ?_ ?_) <;> (try (conv => whnf)))
    all_goals (try (first | with_reducible rfl | exact True.intro | rfl | exact id | exact fun h => h | exact fun _ => rfl))
    all_goals (try (simp at *))
    all_goals (try (simp [timeN, Nd.kind, St.zero, *]))
    all_goals (try (split <;> first | rfl | omega | simp_all))
end Go.Proofs.Ytgmbmpojcnmcgaa

/- Layer 13: rests, and to which worker a record goes. -/
namespace Go.Proofs.Ytgmbmpojcnmcgaa
set_option maxRecDepth 100000
open Go Go.RowKit Go.Proofs.Ytgmbmpojcnmcgaa.Eng
def modN (n m : Int) : Int := if n.tmod m < 0 then n.tmod m + m else n.tmod m
theorem tmod_rng {n m : Int} (h : 0 < m) : -m < n.tmod m ∧ n.tmod m < m := by
  rcases Int.le_total 0 n with h0 | h0
  · rw [Int.tmod_eq_emod_of_nonneg h0]
    have := Int.emod_nonneg n (show m ≠ 0 by omega)
    have := Int.emod_lt_of_pos n h
    omega
  · obtain ⟨k, rfl⟩ : ∃ k, n = -k := ⟨-n, by omega⟩
    rw [Int.neg_tmod, Int.tmod_eq_emod_of_nonneg (show 0 ≤ k by omega)]
    have := Int.emod_nonneg k (show m ≠ 0 by omega)
    have := Int.emod_lt_of_pos k h
    omega
theorem modN_rng {n m : Int} (h : 0 < m) : 0 ≤ modN n m ∧ modN n m < m := by
  have := tmod_rng (n := n) h
  unfold modN; split <;> omega
theorem modN_2 {n m : Int} (h : 0 < m) (hm : m ≤ 4611686018427387904) : (IntKind.i64.wrap (n.tmod m + m)).tmod m = modN n m := by
  have hr := tmod_rng (n := n) h
  have hw : IntKind.i64.wrap (n.tmod m + m) = n.tmod m + m := by rw [IntKind.wrap_i64]; omega
  rw [hw, Int.tmod_eq_emod_of_nonneg (by omega)]
  unfold modN
  split
  · rw [Int.emod_eq_of_lt (by omega) (by omega)]
  · rw [Int.add_emod_right, Int.emod_eq_of_lt (by omega) (by omega)]
def k_mod : Sig := .arg shI fun n => .arg shI fun m => .done { pre := 0 < m ∧ m ≤ 4611686018427387904, res := I (modN n m) }
theorem c_mod : FnOk Try.prog 47 k_mod.con := by
  refine fnOkS mixed tys_ok (cs := []) trivial Try.func47 rfl (by kernel_rfl) Try.ntmps47 _ (h := ?_)
  intro n m
  refine ⟨rfl, fun hp => ?_⟩
  have hp : 0 < m ∧ m ≤ 4611686018427387904 := hp
  have h0 : m ≠ 0 := by omega
  conv => whnf
  repeat' ((first
    | with_reducible first | refine ⟨fun h => h, ?_⟩ | refine ⟨pk1, ?_⟩ | refine ⟨pk2, ?_⟩ | refine ⟨pk3, ?_⟩ | refine ⟨pk4, ?_⟩ | refine ⟨pk5, ?_⟩ | refine ⟨pk6, ?_⟩ | refine ⟨trivial, ?_⟩ | refine ⟨fun _ => trivial, ?_⟩ | refine ⟨rfl, ?_⟩ | refine every_i (fun hd => ?_) | refine everyN_i (fun k hk => ?_) | refine everyD_i (fun d hd => ?_) | refine fork_t (by assumption) ?_ | refine fork_f (by assumption) ?_
    | refine fork_t rfl ?_
    | refine fork_f rfl ?_
    | with_reducible first | refine fork_i (fun h => ?_) (fun h => ?_) | refine both_i ?_ ?_
    | ((with_reducible refine alike_i ?_); exact ⟨rfl, rfl, rfl⟩)
    | ((with_reducible refine fin_i ?_); (conv => whnf); refine ⟨rfl, ?_⟩)
    | refine ⟨h0, ?_⟩
    | refine ⟨of_decide_eq_true rfl, ?_⟩
    | refine ⟨fun _ => of_decide_eq_true rfl, ?_⟩
    | ((with_reducible refine ⟨?_, ?_⟩); (focus (intros; simp_all; done)))
    | ((with_reducible refine ⟨?_, ?_⟩); (focus (intros; omega)))) <;> (try (conv => whnf)))
  all_goals ((with_reducible refine leaf_i ?_); (conv => whnf))
  repeat' ((with_reducible refine And.intro ?_ ?_) <;> (try (conv => whnf)))
  all_goals (try (first | with_reducible rfl | exact True.intro | rfl | exact id | exact fun h => h | exact fun _ => rfl))
  all_goals (first | exact modN_2 hp.1 hp.2 | exact (modN_2 hp.1 hp.2).symm | trace_state)
theorem c_mod' : FnOk Try.prog 48 k_mod.con := by
  refine fnOkS mixed tys_ok (cs := []) trivial Try.func48 rfl (by kernel_rfl) Try.ntmps48 _ (h := ?_)
  intro n m
  refine ⟨rfl, fun hp => ?_⟩
  have hp : 0 < m ∧ m ≤ 4611686018427387904 := hp
  have h0 : m ≠ 0 := by omega
  have hr := tmod_rng (n := n) hp.1
  conv => whnf
  repeat' ((first
    | with_reducible first | refine ⟨fun h => h, ?_⟩ | refine ⟨pk1, ?_⟩ | refine ⟨pk2, ?_⟩ | refine ⟨pk3, ?_⟩ | refine ⟨pk4, ?_⟩ | refine ⟨pk5, ?_⟩ | refine ⟨pk6, ?_⟩ | refine ⟨trivial, ?_⟩ | refine ⟨fun _ => trivial, ?_⟩ | refine ⟨rfl, ?_⟩ | refine every_i (fun hd => ?_) | refine everyN_i (fun k hk => ?_) | refine everyD_i (fun d hd => ?_) | refine fork_t (by assumption) ?_ | refine fork_f (by assumption) ?_
    | refine fork_t rfl ?_
    | refine fork_f rfl ?_
    | with_reducible first | refine fork_i (fun h => ?_) (fun h => ?_) | refine both_i ?_ ?_
    | ((with_reducible refine alike_i ?_); exact ⟨rfl, rfl, rfl⟩)
    | ((with_reducible refine fin_i ?_); (conv => whnf); refine ⟨rfl, ?_⟩)
    | refine ⟨h0, ?_⟩
    | refine ⟨of_decide_eq_true rfl, ?_⟩
    | refine ⟨fun _ => of_decide_eq_true rfl, ?_⟩
    | ((with_reducible refine ⟨?_, ?_⟩); (focus (intros; simp_all; done)))
    | ((with_reducible refine ⟨?_, ?_⟩); (focus (intros; omega)))) <;> (try (conv => whnf)))
  all_goals ((with_reducible refine leaf_i ?_); (conv => whnf))
  repeat' ((with_reducible refine And.intro ?_ ?_) <;> (try (conv => whnf)))
  all_goals (try (first | with_reducible rfl | exact True.intro | rfl | exact id | exact fun h => h | exact fun _ => rfl))
  all_goals (simp at *)
  all_goals (first | (unfold modN; rw [if_pos (by assumption), IntKind.wrap_i64]; omega) | (unfold modN; rw [if_neg (by omega)]; done) | trace_state)
end Go.Proofs.Ytgmbmpojcnmcgaa

/- A graph's bytes: in plain Lean. No program in sight. -/
namespace Go.Proofs.Ytgmbmpojcnmcgaa
open Go Go.Proofs.Ytgmbmpojcnmcgaa.Eng
def putN (n : Nd) : List (El tU) := (n.kind, ()) :: (n.a, ()) :: u8 (n.b.fdiv (2 ^ 56)) :: u8 (n.b.fdiv (2 ^ 48)) :: u8 (n.b.fdiv (2 ^ 40)) :: u8 (n.b.fdiv (2 ^ 32)) :: u8 (n.b.fdiv (2 ^ 24)) :: u8 (n.b.fdiv (2 ^ 16)) :: u8 (n.b.fdiv (2 ^ 8)) :: u8 (n.b.fdiv (2 ^ 0)) :: u8 n.dep :: u8 n.ins.length :: n.ins.map fun x => u8 x.1
theorem putN_len (n : Nd) : (putN n).length = 12 + (Nd.ins n).length := by
  simp only [putN, List.length_cons, List.length_map]
  omega
def putF : List Nd → Option (List (El tU))
  | [] => some []
  | n :: r => if mayN n then (putF r).map (putN n ++ ·) else none
def putG (g : List Nd) : List (El tU) × Int :=
  if g.length < 1 ∨ 32 < g.length then ([], 3) else match putF g with
    | none => ([], 90)
    | some l => (u8 g.length :: l, 0)
theorem putF_all : ∀ (g : List Nd), putF g = if g.all mayN = true then some (g.flatMap putN) else none
  | [] => rfl
  | n :: r => by
    rw [putF, putF_all r, List.all_cons, List.flatMap_cons]
    by_cases h : mayN n = true
    · rw [if_pos h, h, Bool.true_and]
      split <;> rfl
    · have h' : mayN n = false := by simpa using h
      rw [if_neg h, h', Bool.false_and]
      rfl
def putR (n : Nd) : List (El tU) := (n.kind, ()) :: (n.a, ()) :: u8 ((IntKind.u64.wrap n.b).fdiv (2 ^ 56)) :: u8 ((IntKind.u64.wrap n.b).fdiv (2 ^ 48)) :: u8 ((IntKind.u64.wrap n.b).fdiv (2 ^ 40)) :: u8 ((IntKind.u64.wrap n.b).fdiv (2 ^ 32)) :: u8 ((IntKind.u64.wrap n.b).fdiv (2 ^ 24)) :: u8 ((IntKind.u64.wrap n.b).fdiv (2 ^ 16)) :: u8 ((IntKind.u64.wrap n.b).fdiv (2 ^ 8)) :: u8 ((IntKind.u64.wrap n.b).fdiv (2 ^ 0)) :: u8 n.dep :: u8 n.ins.length :: n.ins.map fun x => u8 x.1
theorem sh_eq (b : Int) {k : Nat} (h : k ≤ 7) : u8 ((IntKind.u64.wrap b).fdiv (2 ^ (8 * k))) = u8 (b.fdiv (2 ^ (8 * k))) := by
  have : k = 0 ∨ k = 1 ∨ k = 2 ∨ k = 3 ∨ k = 4 ∨ k = 5 ∨ k = 6 ∨ k = 7 := by omega
  unfold u8
  congr 1
  rw [IntKind.wrap_u64, IntKind.wrap_u8, IntKind.wrap_u8]
  rcases this with rfl | rfl | rfl | rfl | rfl | rfl | rfl | rfl
  all_goals (rw [Int.fdiv_eq_ediv_of_nonneg _ (by decide), Int.fdiv_eq_ediv_of_nonneg _ (by decide)]; omega)
theorem putR_eq (n : Nd) : putR n = putN n := by
  unfold putR putN
  have h := fun k hk => sh_eq n.b (k := k) hk
  have h0 := h 0 (by decide)
  have h1 := h 1 (by decide)
  have h2 := h 2 (by decide)
  have h3 := h 3 (by decide)
  have h4 := h 4 (by decide)
  have h5 := h 5 (by decide)
  have h6 := h 6 (by decide)
  have h7 := h 7 (by decide)
  simp only [Nat.mul_zero, Nat.mul_one, Nat.reduceMul] at h0 h1 h2 h3 h4 h5 h6 h7
  rw [h0, h1, h2, h3, h4, h5, h6, h7]
end Go.Proofs.Ytgmbmpojcnmcgaa
