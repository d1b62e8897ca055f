/- ENGINE 2, 16: what a law is handed: slices, opened. -/
import Derived.Test.YthlkhjfilfdpiaaF15
namespace Go.Proofs.Ythlkhjfilfdpiaa.Eng
set_option linter.unusedVariables false
set_option linter.unusedSimpArgs false
open Go Go.RowKit

/-- What is behind the cells of a type. -/
def matchA (go : Ty → Option Ty) : Nat → Ty → Option Ty
  | 0, τ => some τ
  | n + 1, τ => match go τ with
    | some r => matchA go n r
    | none => none
def matchFs (P : Program) (go : TypeId → Ty → Option Ty) : List Field → Nat → Ty → Option (Nat × Ty)
  | [], off, τ => some (off, τ)
  | f :: fs, off, τ => if f.offset = off then (match go f.type τ with
    | some r => matchFs P go fs (off + P.cellsOf f.type) r
    | none => none) else none
def isNil : Option Ty → Bool
  | some .nil => true
  | _ => false
def matchT (P : Program) : Nat → TypeId → Ty → Option Ty
  | 0, _, _ => none
  | d + 1, t, τ => match P.underlying t, τ with
    | some .bool, .bool r => if P.cellsOf t = 1 then some r else none
    | some (.int k), .int k' r => if k = k' ∧ P.cellsOf t = 1 then some r else none
    | some .string, .str r => if P.cellsOf t = 1 then some r else none
    | some (.slice e), .sl a r => if isNil (matchT P d e a) = true ∧ P.cellsOf e = tsz a ∧ 0 < tsz a ∧ P.cellsOf t = 1 then some r else none
    | some (.struct fs), τ => (match matchFs P (matchT P d) fs.toList 0 τ with
      | some (n, r) => if n = P.cellsOf t then some r else none
      | none => none)
    | some (.array n e), τ => if n * P.cellsOf e = P.cellsOf t then matchA (matchT P d e) n τ else none
    | _, _ => none

/-- Numbers in their bounds, lists not too long. -/
def okT : (t : Ty) → El t → Prop
  | .nil, _ => True
  | .int k r, x => k.has x.1 ∧ okT r x.2
  | .bool r, x => okT r x.2
  | .str r, x => x.1.size ≤ maxLen ∧ okT r x.2
  | .sl a r, x => x.1.length ≤ maxLen ∧ (∀ y ∈ x.1, okT a y) ∧ okT r x.2

theorem mapM_mem {α β : Type} (F : α → Option β) : ∀ (l : List α) {xs : List β}, l.mapM F = some xs → ∀ a ∈ l, ∃ b, F a = some b
  | [], _, _, a, ha => by cases ha
  | a :: r, xs, h, a', ha => by
    rw [List.mapM_cons] at h
    cases h1 : F a with
    | none => rw [h1] at h; cases h
    | some b =>
      rw [h1] at h
      cases h2 : r.mapM F with
      | none => rw [h2] at h; cases h
      | some bs =>
        rcases List.mem_cons.1 ha with rfl | ha
        · exact ⟨b, h1⟩
        · exact mapM_mem F r h2 a' ha
theorem list_of {α : Type} (Q : Nat → α → Prop) : ∀ (n : Nat), (∀ i, i < n → ∃ y, Q i y) → ∃ l : List α, l.length = n ∧ ∀ i y, l[i]? = some y → Q i y
  | 0, _ => ⟨[], rfl, fun i y h => by simp at h⟩
  | n + 1, h => by
    obtain ⟨l, h1, h2⟩ := list_of Q n fun i hi => h i (by omega)
    obtain ⟨y, hy⟩ := h n (by omega)
    refine ⟨l ++ [y], by simp [h1], fun i z hz => ?_⟩
    by_cases hi : i < n
    · rw [List.getElem?_append_left (by omega)] at hz; exact h2 i z hz
    · rw [List.getElem?_append_right (by omega)] at hz
      have : i - l.length = 0 := by
        have := (List.getElem?_eq_some_iff.1 hz).1
        simp at this; omega
      rw [this] at hz
      simp at hz
      have : i = n := by omega
      subst this hz; exact hy

abbrev noO : Nat → Prop := fun _ => False
/-- Cells that are what comes first. -/
def Opens (w : World) (τ r : Ty) (cs : List Value) : Prop :=
  ∃ f : El r → El τ, (∀ z vs, memE w noO 0 r z vs → memE w noO 0 τ (f z) (cs ++ vs)) ∧ ∀ z, okT r z → okT τ (f z)
theorem Opens.refl {w : World} {τ : Ty} : Opens w τ τ [] := ⟨id, fun z vs h => h, fun z h => h⟩
theorem Opens.trans {w : World} {τ r s : Ty} {cs ds : List Value} (h : Opens w τ r cs) (h' : Opens w r s ds) : Opens w τ s (cs ++ ds) := by
  obtain ⟨f, h1, h2⟩ := h
  obtain ⟨g, h3, h4⟩ := h'
  exact ⟨f ∘ g, fun z vs hz => by rw [List.append_assoc]; exact h1 _ _ (h3 z vs hz), fun z hz => h2 _ (h4 z hz)⟩
theorem Opens.all {w : World} {τ : Ty} {cs : List Value} (h : Opens w τ .nil cs) : ∃ x : El τ, memE w noO 0 τ x cs ∧ okT τ x := by
  obtain ⟨f, h1, h2⟩ := h
  exact ⟨f (), by simpa using h1 () [] rfl, h2 () trivial⟩
theorem take_add' {α : Type} (l : List α) (o a b : Nat) : (l.drop o).take (a + b) = (l.drop o).take a ++ (l.drop (o + a)).take b := by
  rw [List.take_add, List.drop_drop]

section
variable {H : Type} {enc : TypeId × Value → H} {P : Program} {w : World} {sp : Nat → Bool} {held : Bool}

theorem openFs {go : TypeId → Ty → Option Ty} {cs : List Value} : ∀ (fs : List Field) (off off' : Nat) (τ r : Ty), matchFs P go fs off τ = some (off', r) →
    (∀ f ∈ fs, ∀ τ r, go f.type τ = some r → ((cs.drop f.offset).take (P.cellsOf f.type)).length = P.cellsOf f.type ∧ Opens w τ r ((cs.drop f.offset).take (P.cellsOf f.type))) →
    off ≤ off' ∧ Opens w τ r ((cs.drop off).take (off' - off))
  | [], off, off', τ, r, h, _ => by
    injection h with h; injection h with h1 h2; subst h1 h2
    exact ⟨Nat.le_refl _, by rw [Nat.sub_self, List.take_zero]; exact Opens.refl⟩
  | f :: fs, off, off', τ, r, h, hf => by
    simp only [matchFs] at h
    split at h
    · rename_i ho
      split at h
      · rename_i r1 hg
        obtain ⟨h1, h2⟩ := hf f (by simp) τ r1 hg
        obtain ⟨h3, h4⟩ := openFs fs _ _ _ _ h fun g hg => hf g (by simp [hg])
        rw [ho] at h2
        refine ⟨by omega, ?_⟩
        have := h2.trans h4
        rw [show off' - off = P.cellsOf f.type + (off' - (off + P.cellsOf f.type)) by omega, take_add']
        exact this
      · cases h
    · cases h
theorem openA {go : Ty → Option Ty} {c : Nat} {cs : List Value} : ∀ (n i : Nat) (τ r : Ty), matchA go n τ = some r →
    (∀ j, i ≤ j → j < i + n → ∀ τ r, go τ = some r → Opens w τ r ((cs.drop (j * c)).take c)) → Opens w τ r ((cs.drop (i * c)).take (n * c))
  | 0, i, τ, r, h, _ => by injection h with h; subst h; rw [Nat.zero_mul, List.take_zero]; exact Opens.refl
  | n + 1, i, τ, r, h, hj => by
    simp only [matchA] at h
    split at h
    · rename_i r1 hg
      have h1 := hj i (Nat.le_refl _) (by omega) τ r1 hg
      have h2 := openA n (i + 1) r1 r h fun j h1 h2 => hj j (by omega) (by omega)
      have := h1.trans h2
      rw [Nat.add_mul, Nat.one_mul, Nat.add_comm (n * c) c, take_add']
      rw [Nat.add_mul, Nat.one_mul] at this
      exact this
    · cases h

/-- A slice's elements. -/
theorem openSl {a : Addr} {len c : Nat} {τ : Ty} (hc : c = tsz τ) (h0 : 0 < tsz τ) (h : ∀ i, i < len → ∃ cs, w.cells? 0 (a.add (i * c)) c = some cs ∧ Opens w τ .nil cs) :
    ∃ l : List (El τ), l.length = len ∧ memL w noO 0 (tsz τ) (memE w noO 0 τ) (some a) l ∧ ∀ y ∈ l, okT τ y := by
  subst hc
  obtain ⟨l, hl, hq⟩ := list_of (fun i (y : El τ) => ∃ cs, w.cells? 0 (a.add (i * tsz τ)) (tsz τ) = some cs ∧ memE w noO 0 τ y cs ∧ okT τ y) len fun i hi => by
    obtain ⟨cs, h1, h2⟩ := h i hi
    obtain ⟨x, h3, h4⟩ := h2.all
    exact ⟨x, cs, h1, h3, h4⟩
  refine ⟨l, hl, fun i y hy => ?_, fun y hy => ?_⟩
  · have hi : i < len := by have := (List.getElem?_eq_some_iff.1 hy).1; omega
    obtain ⟨cs, h1, h2, _⟩ := hq i y hy
    obtain ⟨cs0, h01, _⟩ := h 0 (by omega)
    have hsp : a.spot = none := by
      obtain ⟨_, _, he⟩ := World.cells?_some h01
      have := he 0 h0
      rw [Nat.zero_mul] at this
      have e0 : (a.add 0).add 0 = a := rfl
      rw [e0] at this
      cases hs : a.spot with
      | none => rfl
      | some s =>
        exfalso
        unfold World.cell? at this
        have hl0 : cs0.length = tsz τ := (World.cells?_some h01).2.1
        rw [List.getElem?_eq_getElem (by omega)] at this
        split at this
        · simp [hs] at this
        · cases this
    have hb := World.cells?_block h1 h0
    obtain ⟨_, hl1, he⟩ := World.cells?_some h1
    obtain ⟨ab, ao, asp⟩ := a
    simp only at hsp
    subst hsp
    rw [Addr.add_mid] at hb he
    refine ⟨⟨ab, ao, none⟩, rfl, rfl, fun h => h, hb, Nat.zero_le _, cs, hl1, fun j v hv => ?_, h2⟩
    have hj := (List.getElem?_eq_some_iff.1 hv).1
    have := he j (by omega)
    rw [Addr.add_mid] at this
    rw [this]; exact hv
  · obtain ⟨i, hi⟩ := List.getElem?_of_mem hy
    obtain ⟨_, _, _, h3⟩ := hq i y hi
    exact h3

theorem trod_bool' {t : TypeId} {n : Nat} {cs : List Value} {x : DataW H × List MemPlace} (ht : P.underlying t = some .bool) (h : DataW.trod enc P w 0 sp held n t cs = some x) : ∃ b, cs = [.bool b] := by
  cases n with
  | zero => simp [DataW.trod] at h
  | succ n =>
    unfold DataW.trod at h
    rw [ht] at h
    split at h <;> simp_all
theorem trod_int' {t : TypeId} {k : IntKind} {n : Nat} {cs : List Value} {x : DataW H × List MemPlace} (ht : P.underlying t = some (.int k)) (h : DataW.trod enc P w 0 sp held n t cs = some x) : ∃ z, cs = [.int k z] ∧ k.has z := by
  cases n with
  | zero => simp [DataW.trod] at h
  | succ n =>
    unfold DataW.trod at h
    rw [ht] at h
    split at h <;> simp_all [Lit.wf, IntKind.has]
theorem trod_str' {t : TypeId} {n : Nat} {cs : List Value} {x : DataW H × List MemPlace} (ht : P.underlying t = some .string) (h : DataW.trod enc P w 0 sp held n t cs = some x) : ∃ s, cs = [.string s] ∧ s.size ≤ maxLen := by
  cases n with
  | zero => simp [DataW.trod] at h
  | succ n =>
    unfold DataW.trod at h
    rw [ht] at h
    split at h <;> simp_all
theorem openT : ∀ (d : Nat) (t : TypeId) (τ r : Ty), matchT P d t τ = some r → ∀ (n : Nat) (cs : List Value) x, DataW.trod enc P w 0 sp held n t cs = some x → cs.length = P.cellsOf t ∧ Opens w τ r cs
  | 0, _, _, _, h, _, _, _, _ => by cases h
  | d + 1, t, τ, r, h, n, cs, x, hx => by
    unfold matchT at h
    split at h
    · rename_i r' hu
      split at h
      · rename_i hc
        injection h with h; subst h
        obtain ⟨b, rfl⟩ := trod_bool' hu hx
        exact ⟨hc.symm, fun z => (b, z), fun z vs hz => ⟨vs, rfl, hz⟩, fun z hz => hz⟩
      · cases h
    · rename_i k k' r' hu
      split at h
      · rename_i hc
        injection h with h; subst h
        obtain ⟨b, rfl, hb⟩ := trod_int' hu hx
        obtain ⟨rfl, hc⟩ := hc
        exact ⟨hc.symm, fun z => (b, z), fun z vs hz => ⟨vs, rfl, hz⟩, fun z hz => ⟨hb, hz⟩⟩
      · cases h
    · rename_i r' hu
      split at h
      · rename_i hc
        injection h with h; subst h
        obtain ⟨b, rfl, hb⟩ := trod_str' hu hx
        exact ⟨hc.symm, fun z => (b, z), fun z vs hz => ⟨vs, rfl, hz⟩, fun z hz => ⟨hb, hz⟩⟩
      · cases h
    · rename_i e a r' hu
      split at h
      · rename_i hc
        obtain ⟨hm, hc1, hc2, hc3⟩ := hc
        injection h with h; subst h
        have hm' : matchT P d e a = some .nil := by
          unfold isNil at hm
          split at hm
          · assumption
          · cases hm
        rcases DataW.trod_slice hu hx with ⟨rfl, _⟩ | ⟨ad, len, cap, elems, rest, n', _, rfl, rfl, hb, hl, hmx, hlen, hel, _⟩
        · exact ⟨hc3.symm, fun z => ([], z), fun z vs hz => ⟨none, 0, vs, rfl, Nat.le_refl _, fun i y hy => by simp at hy, hz⟩, fun z hz => ⟨Nat.zero_le _, (fun y hy => (by cases hy)), hz⟩⟩
        · obtain ⟨l, h1, h2, h3⟩ := openSl (w := w) (a := ad) (len := len) (τ := a) hc1 hc2 fun i hi => by
            have := hel i hi
            rw [List.getElem?_eq_getElem (by omega)] at this
            cases hcs : w.cells? 0 (ad.add (i * P.cellsOf e)) (P.cellsOf e) with
            | none => rw [hcs] at this; cases this
            | some cs =>
              rw [hcs] at this
              exact ⟨cs, rfl, (openT d e a .nil hm' _ _ _ this).2⟩
          exact ⟨hc3.symm, fun z => (l, z), fun z vs hz => ⟨some ad, cap, vs, by rw [h1]; rfl, by rw [h1]; exact hl, h2, hz⟩, fun z hz => ⟨by rw [h1]; omega, h3, hz⟩⟩
      · cases h
    · rename_i τ fs hu
      split at h
      · rename_i m r' hf
        split at h
        · rename_i hm
          injection h with h; subst h hm
          obtain ⟨xs, n', _, rfl, hl, hlen, hfs⟩ := DataW.trod_struct hu hx
          have := openFs (w := w) (cs := cs) fs.toList 0 _ _ r' hf fun f hfm τ r hg => by
            obtain ⟨i, hi⟩ := List.getElem?_of_mem hfm
            have h1 := hfs i f (by simpa using hi)
            have hil : i < xs.length := by have := (List.getElem?_eq_some_iff.1 hi).1; simp at this; omega
            rw [List.getElem?_eq_getElem hil] at h1
            exact openT d f.type τ r hg _ _ _ h1
          rw [List.drop_zero, Nat.sub_zero, ← hl, List.take_length] at this
          exact ⟨hl, this.2⟩
        · cases h
      · cases h
    · rename_i τ m e hu
      split at h
      · rename_i hm
        obtain ⟨xs, n', _, rfl, hl, hlen, hfs⟩ := DataW.trod_array hu hx
        have := openA (w := w) (c := P.cellsOf e) (cs := cs) m 0 _ r h fun j _ hj τ r hg => by
          have h1 := hfs j (by omega)
          rw [List.getElem?_eq_getElem (by omega)] at h1
          exact (openT d e τ r hg _ _ _ h1).2
        rw [Nat.zero_mul, List.drop_zero, hm, ← hl, List.take_length] at this
        exact ⟨hl, this⟩
      · cases h
    · cases h

/-- **A slice that a law is handed.** -/
theorem open_rl {T e : TypeId} {τ : Ty} {v : Value} {d : DataW H} {ps : List MemPlace} {k : Nat} (hu : P.underlying T = some (.slice e)) (hm : isNil (matchT P k e τ) = true) (hc : P.cellsOf e = tsz τ) (h0 : 0 < tsz τ) (hw : ∃ a len cap, v = .slice a len cap) (h : DataW.Trod enc P w 0 sp held T v d ps) :
    ∃ l : List (El τ), sat ((shR τ).put l) (cx0 w) [v] ∧ l.length ≤ maxLen ∧ ∀ y ∈ l, okT τ y := by
  obtain ⟨fuel, hx⟩ := h
  have hm' : matchT P k e τ = some .nil := by
    unfold isNil at hm
    split at hm
    · assumption
    · cases hm
  obtain ⟨a', len', cap', rfl⟩ := hw
  rcases DataW.trod_slice hu hx with ⟨hcs, _⟩ | ⟨ad, len, cap, elems, rest, n', _, hcs, _, hb, hl, hmx, hlen, hel, _⟩
  · simp [Value.cells] at hcs
    obtain ⟨rfl, rfl, rfl⟩ := hcs
    exact ⟨[], ⟨none, 0, rfl, Nat.le_refl _, fun i y hy => by simp at hy⟩, Nat.zero_le _, fun y hy => by cases hy⟩
  · simp [Value.cells] at hcs
    obtain ⟨rfl, rfl, rfl⟩ := hcs
    obtain ⟨l, h1, h2, h3⟩ := openSl (w := w) (a := ad) (len := len') (τ := τ) hc h0 fun i hi => by
      have := hel i hi
      rw [List.getElem?_eq_getElem (by omega)] at this
      cases hcs : w.cells? 0 (ad.add (i * P.cellsOf e)) (P.cellsOf e) with
      | none => rw [hcs] at this; cases this
      | some cs =>
        rw [hcs] at this
        exact ⟨cs, rfl, (openT k e τ .nil hm' _ _ _ this).2⟩
    exact ⟨l, ⟨some ad, cap', by rw [h1], by rw [h1]; exact hl, h2⟩, by omega, h3⟩
end
end Go.Proofs.Ythlkhjfilfdpiaa.Eng
