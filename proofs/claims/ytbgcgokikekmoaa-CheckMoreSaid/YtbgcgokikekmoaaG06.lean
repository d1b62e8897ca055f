/- Parts of the proof, joined: no conditions of their own. -/
import Derived.Laws.BitsLemmas
import Derived.Laws.Bits64
import Derived.Test.YtbgcgokikekmoaaProg
import Derived.Test.YtbgcgokikekmoaaG05
/- ENGINE 2, 16: what a law is handed: slices, opened. -/
namespace Go.Proofs.Ytbgcgokikekmoaa.Eng
open Go Go.RowKit
def matchA (go : Ty → Option Ty) : Nat → Ty → Option Ty
  | 0, τ => some τ
  | n + 1, τ => match go τ with
    | some r => matchA go n r
    | none => none
def matchFs (P : Program) (go : TypeId → Ty → Option Ty) : List Field → Nat → Ty → Option (Nat × Ty)
  | [], off, τ => some (off, τ)
  | f :: fs, off, τ => if f.offset = off then (match go f.type τ with
    | some r => matchFs P go fs (off + P.cellsOf f.type) r
    | none => none) else none
def isNil : Option Ty → Bool
  | some .nil => true
  | _ => false
def matchT (P : Program) : Nat → TypeId → Ty → Option Ty
  | 0, _, _ => none
  | d + 1, t, τ => match P.underlying t, τ with
    | some .bool, .bool r => if P.cellsOf t = 1 then some r else none
    | some (.int k), .int k' r => if k = k' ∧ P.cellsOf t = 1 then some r else none
    | some .string, .str r => if P.cellsOf t = 1 then some r else none
    | some (.slice e), .sl a r => if isNil (matchT P d e a) = true ∧ P.cellsOf e = tsz a ∧ 0 < tsz a ∧ P.cellsOf t = 1 then some r else none
    | some (.struct fs), τ => (match matchFs P (matchT P d) fs.toList 0 τ with
      | some (n, r) => if n = P.cellsOf t then some r else none
      | none => none)
    | some (.array n e), τ => if n * P.cellsOf e = P.cellsOf t then matchA (matchT P d e) n τ else none
    | _, _ => none
def okT : (t : Ty) → El t → Prop
  | .nil, _ => True
  | .int k r, x => k.has x.1 ∧ okT r x.2
  | .bool r, x => okT r x.2
  | .str r, x => x.1.size ≤ maxLen ∧ okT r x.2
  | .sl a r, x => x.1.length ≤ maxLen ∧ (∀ y ∈ x.1, okT a y) ∧ okT r x.2
theorem mapM_mem {α β : Type} (F : α → Option β) : ∀ (l : List α) {xs : List β}, l.mapM F = some xs → ∀ a ∈ l, ∃ b, F a = some b
  | [], _, _, a, ha => by cases ha
  | a :: r, xs, h, a', ha => by
    rw [List.mapM_cons] at h
    cases h1 : F a with
    | none => rw [h1] at h; cases h
    | some b =>
      rw [h1] at h
      cases h2 : r.mapM F with
      | none => rw [h2] at h; cases h
      | some bs =>
        rcases List.mem_cons.1 ha with rfl | ha
        · exact ⟨b, h1⟩
        · exact mapM_mem F r h2 a' ha
theorem list_of {α : Type} (Q : Nat → α → Prop) : ∀ (n : Nat), (∀ i, i < n → ∃ y, Q i y) → ∃ l : List α, l.length = n ∧ ∀ i y, l[i]? = some y → Q i y
  | 0, _ => ⟨[], rfl, fun i y h => by simp at h⟩
  | n + 1, h => by
    obtain ⟨l, h1, h2⟩ := list_of Q n fun i hi => h i (by omega)
    obtain ⟨y, hy⟩ := h n (by omega)
    refine ⟨l ++ [y], by simp [h1], fun i z hz => ?_⟩
    by_cases hi : i < n
    · rw [List.getElem?_append_left (by omega)] at hz; exact h2 i z hz
    · rw [List.getElem?_append_right (by omega)] at hz
      have : i - l.length = 0 := by
        have := (List.getElem?_eq_some_iff.1 hz).1
        simp at this; omega
      rw [this] at hz
      simp at hz
      have : i = n := by omega
      subst this hz; exact hy
abbrev noO : Nat → Prop := fun _ => False
def Opens (w : World) (τ r : Ty) (cs : List Value) : Prop :=
  ∃ f : El r → El τ, (∀ z vs, memE w noO 0 r z vs → memE w noO 0 τ (f z) (cs ++ vs)) ∧ ∀ z, okT r z → okT τ (f z)
theorem Opens.refl {w : World} {τ : Ty} : Opens w τ τ [] := ⟨id, fun z vs h => h, fun z h => h⟩
theorem Opens.trans {w : World} {τ r s : Ty} {cs ds : List Value} (h : Opens w τ r cs) (h' : Opens w r s ds) : Opens w τ s (cs ++ ds) := by
  obtain ⟨f, h1, h2⟩ := h
  obtain ⟨g, h3, h4⟩ := h'
  exact ⟨f ∘ g, fun z vs hz => by rw [List.append_assoc]; exact h1 _ _ (h3 z vs hz), fun z hz => h2 _ (h4 z hz)⟩
theorem Opens.all {w : World} {τ : Ty} {cs : List Value} (h : Opens w τ .nil cs) : ∃ x : El τ, memE w noO 0 τ x cs ∧ okT τ x := by
  obtain ⟨f, h1, h2⟩ := h
  exact ⟨f (), by simpa using h1 () [] rfl, h2 () trivial⟩
theorem take_add' {α : Type} (l : List α) (o a b : Nat) : (l.drop o).take (a + b) = (l.drop o).take a ++ (l.drop (o + a)).take b := by
  rw [List.take_add, List.drop_drop]
section
variable {H : Type} {enc : TypeId × Value → H} {P : Program} {w : World} {sp : Nat → Bool} {held : Bool}
theorem openFs {go : TypeId → Ty → Option Ty} {cs : List Value} : ∀ (fs : List Field) (off off' : Nat) (τ r : Ty), matchFs P go fs off τ = some (off', r) →
    (∀ f ∈ fs, ∀ τ r, go f.type τ = some r → ((cs.drop f.offset).take (P.cellsOf f.type)).length = P.cellsOf f.type ∧ Opens w τ r ((cs.drop f.offset).take (P.cellsOf f.type))) →
    off ≤ off' ∧ Opens w τ r ((cs.drop off).take (off' - off))
  | [], off, off', τ, r, h, _ => by
    injection h with h; injection h with h1 h2; subst h1 h2
    exact ⟨Nat.le_refl _, by rw [Nat.sub_self, List.take_zero]; exact Opens.refl⟩
  | f :: fs, off, off', τ, r, h, hf => by
    simp only [matchFs] at h
    split at h
    · rename_i ho
      split at h
      · rename_i r1 hg
        obtain ⟨h1, h2⟩ := hf f (by simp) τ r1 hg
        obtain ⟨h3, h4⟩ := openFs fs _ _ _ _ h fun g hg => hf g (by simp [hg])
        rw [ho] at h2
        refine ⟨by omega, ?_⟩
        have := h2.trans h4
        rw [show off' - off = P.cellsOf f.type + (off' - (off + P.cellsOf f.type)) by omega, take_add']
        exact this
      · cases h
    · cases h
theorem openA {go : Ty → Option Ty} {c : Nat} {cs : List Value} : ∀ (n i : Nat) (τ r : Ty), matchA go n τ = some r →
    (∀ j, i ≤ j → j < i + n → ∀ τ r, go τ = some r → Opens w τ r ((cs.drop (j * c)).take c)) → Opens w τ r ((cs.drop (i * c)).take (n * c))
  | 0, i, τ, r, h, _ => by injection h with h; subst h; rw [Nat.zero_mul, List.take_zero]; exact Opens.refl
  | n + 1, i, τ, r, h, hj => by
    simp only [matchA] at h
    split at h
    · rename_i r1 hg
      have h1 := hj i (Nat.le_refl _) (by omega) τ r1 hg
      have h2 := openA n (i + 1) r1 r h fun j h1 h2 => hj j (by omega) (by omega)
      have := h1.trans h2
      rw [Nat.add_mul, Nat.one_mul, Nat.add_comm (n * c) c, take_add']
      rw [Nat.add_mul, Nat.one_mul] at this
      exact this
    · cases h
theorem openSl {a : Addr} {len c : Nat} {τ : Ty} (hc : c = tsz τ) (h0 : 0 < tsz τ) (h : ∀ i, i < len → ∃ cs, w.cells? 0 (a.add (i * c)) c = some cs ∧ Opens w τ .nil cs) :
    ∃ l : List (El τ), l.length = len ∧ memL w noO 0 (tsz τ) (memE w noO 0 τ) (some a) l ∧ ∀ y ∈ l, okT τ y := by
  subst hc
  obtain ⟨l, hl, hq⟩ := list_of (fun i (y : El τ) => ∃ cs, w.cells? 0 (a.add (i * tsz τ)) (tsz τ) = some cs ∧ memE w noO 0 τ y cs ∧ okT τ y) len fun i hi => by
    obtain ⟨cs, h1, h2⟩ := h i hi
    obtain ⟨x, h3, h4⟩ := h2.all
    exact ⟨x, cs, h1, h3, h4⟩
  refine ⟨l, hl, fun i y hy => ?_, fun y hy => ?_⟩
  · have hi : i < len := by have := (List.getElem?_eq_some_iff.1 hy).1; omega
    obtain ⟨cs, h1, h2, _⟩ := hq i y hy
    obtain ⟨cs0, h01, _⟩ := h 0 (by omega)
    have hsp : a.spot = none := by
      obtain ⟨_, _, he⟩ := World.cells?_some h01
      have := he 0 h0
      rw [Nat.zero_mul] at this
      have e0 : (a.add 0).add 0 = a := rfl
      rw [e0] at this
      cases hs : a.spot with
      | none => rfl
      | some s =>
        exfalso
        unfold World.cell? at this
        have hl0 : cs0.length = tsz τ := (World.cells?_some h01).2.1
        rw [List.getElem?_eq_getElem (by omega)] at this
        split at this
        · simp [hs] at this
        · cases this
    have hb := World.cells?_block h1 h0
    obtain ⟨_, hl1, he⟩ := World.cells?_some h1
    obtain ⟨ab, ao, asp⟩ := a
    simp only at hsp
    subst hsp
    rw [Addr.add_mid] at hb he
    refine ⟨⟨ab, ao, none⟩, rfl, rfl, fun h => h, hb, Nat.zero_le _, cs, hl1, fun j v hv => ?_, h2⟩
    have hj := (List.getElem?_eq_some_iff.1 hv).1
    have := he j (by omega)
    rw [Addr.add_mid] at this
    rw [this]; exact hv
  · obtain ⟨i, hi⟩ := List.getElem?_of_mem hy
    obtain ⟨_, _, _, h3⟩ := hq i y hi
    exact h3
theorem trod_bool' {t : TypeId} {n : Nat} {cs : List Value} {x : DataW H × List MemPlace} (ht : P.underlying t = some .bool) (h : DataW.trod enc P w 0 sp held n t cs = some x) : ∃ b, cs = [.bool b] := by
  cases n with
  | zero => simp [DataW.trod] at h
  | succ n =>
    unfold DataW.trod at h
    rw [ht] at h
    split at h <;> simp_all
theorem trod_int' {t : TypeId} {k : IntKind} {n : Nat} {cs : List Value} {x : DataW H × List MemPlace} (ht : P.underlying t = some (.int k)) (h : DataW.trod enc P w 0 sp held n t cs = some x) : ∃ z, cs = [.int k z] ∧ k.has z := by
  cases n with
  | zero => simp [DataW.trod] at h
  | succ n =>
    unfold DataW.trod at h
    rw [ht] at h
    split at h <;> simp_all [Lit.wf, IntKind.has]
theorem trod_str' {t : TypeId} {n : Nat} {cs : List Value} {x : DataW H × List MemPlace} (ht : P.underlying t = some .string) (h : DataW.trod enc P w 0 sp held n t cs = some x) : ∃ s, cs = [.string s] ∧ s.size ≤ maxLen := by
  cases n with
  | zero => simp [DataW.trod] at h
  | succ n =>
    unfold DataW.trod at h
    rw [ht] at h
    split at h <;> simp_all
theorem openT : ∀ (d : Nat) (t : TypeId) (τ r : Ty), matchT P d t τ = some r → ∀ (n : Nat) (cs : List Value) x, DataW.trod enc P w 0 sp held n t cs = some x → cs.length = P.cellsOf t ∧ Opens w τ r cs
  | 0, _, _, _, h, _, _, _, _ => by cases h
  | d + 1, t, τ, r, h, n, cs, x, hx => by
    unfold matchT at h
    split at h
    · rename_i r' hu
      split at h
      · rename_i hc
        injection h with h; subst h
        obtain ⟨b, rfl⟩ := trod_bool' hu hx
        exact ⟨hc.symm, fun z => (b, z), fun z vs hz => ⟨vs, rfl, hz⟩, fun z hz => hz⟩
      · cases h
    · rename_i k k' r' hu
      split at h
      · rename_i hc
        injection h with h; subst h
        obtain ⟨b, rfl, hb⟩ := trod_int' hu hx
        obtain ⟨rfl, hc⟩ := hc
        exact ⟨hc.symm, fun z => (b, z), fun z vs hz => ⟨vs, rfl, hz⟩, fun z hz => ⟨hb, hz⟩⟩
      · cases h
    · rename_i r' hu
      split at h
      · rename_i hc
        injection h with h; subst h
        obtain ⟨b, rfl, hb⟩ := trod_str' hu hx
        exact ⟨hc.symm, fun z => (b, z), fun z vs hz => ⟨vs, rfl, hz⟩, fun z hz => ⟨hb, hz⟩⟩
      · cases h
    · rename_i e a r' hu
      split at h
      · rename_i hc
        obtain ⟨hm, hc1, hc2, hc3⟩ := hc
        injection h with h; subst h
        have hm' : matchT P d e a = some .nil := by
          unfold isNil at hm
          split at hm
          · assumption
          · cases hm
        rcases DataW.trod_slice hu hx with ⟨rfl, _⟩ | ⟨ad, len, cap, elems, rest, n', _, rfl, rfl, hb, hl, hmx, hlen, hel, _⟩
        · exact ⟨hc3.symm, fun z => ([], z), fun z vs hz => ⟨none, 0, vs, rfl, Nat.le_refl _, fun i y hy => by simp at hy, hz⟩, fun z hz => ⟨Nat.zero_le _, (fun y hy => (by cases hy)), hz⟩⟩
        · obtain ⟨l, h1, h2, h3⟩ := openSl (w := w) (a := ad) (len := len) (τ := a) hc1 hc2 fun i hi => by
            have := hel i hi
            rw [List.getElem?_eq_getElem (by omega)] at this
            cases hcs : w.cells? 0 (ad.add (i * P.cellsOf e)) (P.cellsOf e) with
            | none => rw [hcs] at this; cases this
            | some cs =>
              rw [hcs] at this
              exact ⟨cs, rfl, (openT d e a .nil hm' _ _ _ this).2⟩
          exact ⟨hc3.symm, fun z => (l, z), fun z vs hz => ⟨some ad, cap, vs, by rw [h1]; rfl, by rw [h1]; exact hl, h2, hz⟩, fun z hz => ⟨by rw [h1]; omega, h3, hz⟩⟩
      · cases h
    · rename_i τ fs hu
      split at h
      · rename_i m r' hf
        split at h
        · rename_i hm
          injection h with h; subst h hm
          obtain ⟨xs, n', _, rfl, hl, hlen, hfs⟩ := DataW.trod_struct hu hx
          have := openFs (w := w) (cs := cs) fs.toList 0 _ _ r' hf fun f hfm τ r hg => by
            obtain ⟨i, hi⟩ := List.getElem?_of_mem hfm
            have h1 := hfs i f (by simpa using hi)
            have hil : i < xs.length := by have := (List.getElem?_eq_some_iff.1 hi).1; simp at this; omega
            rw [List.getElem?_eq_getElem hil] at h1
            exact openT d f.type τ r hg _ _ _ h1
          rw [List.drop_zero, Nat.sub_zero, ← hl, List.take_length] at this
          exact ⟨hl, this.2⟩
        · cases h
      · cases h
    · rename_i τ m e hu
      split at h
      · rename_i hm
        obtain ⟨xs, n', _, rfl, hl, hlen, hfs⟩ := DataW.trod_array hu hx
        have := openA (w := w) (c := P.cellsOf e) (cs := cs) m 0 _ r h fun j _ hj τ r hg => by
          have h1 := hfs j (by omega)
          rw [List.getElem?_eq_getElem (by omega)] at h1
          exact (openT d e τ r hg _ _ _ h1).2
        rw [Nat.zero_mul, List.drop_zero, hm, ← hl, List.take_length] at this
        exact ⟨hl, this⟩
      · cases h
    · cases h
theorem open_rl {T e : TypeId} {τ : Ty} {v : Value} {d : DataW H} {ps : List MemPlace} {k : Nat} (hu : P.underlying T = some (.slice e)) (hm : isNil (matchT P k e τ) = true) (hc : P.cellsOf e = tsz τ) (h0 : 0 < tsz τ) (hw : ∃ a len cap, v = .slice a len cap) (h : DataW.Trod enc P w 0 sp held T v d ps) :
    ∃ l : List (El τ), sat ((shR τ).put l) (cx0 w) [v] ∧ l.length ≤ maxLen ∧ ∀ y ∈ l, okT τ y := by
  obtain ⟨fuel, hx⟩ := h
  have hm' : matchT P k e τ = some .nil := by
    unfold isNil at hm
    split at hm
    · assumption
    · cases hm
  obtain ⟨a', len', cap', rfl⟩ := hw
  rcases DataW.trod_slice hu hx with ⟨hcs, _⟩ | ⟨ad, len, cap, elems, rest, n', _, hcs, _, hb, hl, hmx, hlen, hel, _⟩
  · simp [Value.cells] at hcs
    obtain ⟨rfl, rfl, rfl⟩ := hcs
    exact ⟨[], ⟨none, 0, rfl, Nat.le_refl _, fun i y hy => by simp at hy⟩, Nat.zero_le _, fun y hy => by cases hy⟩
  · simp [Value.cells] at hcs
    obtain ⟨rfl, rfl, rfl⟩ := hcs
    obtain ⟨l, h1, h2, h3⟩ := openSl (w := w) (a := ad) (len := len') (τ := τ) hc h0 fun i hi => by
      have := hel i hi
      rw [List.getElem?_eq_getElem (by omega)] at this
      cases hcs : w.cells? 0 (ad.add (i * P.cellsOf e)) (P.cellsOf e) with
      | none => rw [hcs] at this; cases this
      | some cs =>
        rw [hcs] at this
        exact ⟨cs, rfl, (openT k e τ .nil hm' _ _ _ this).2⟩
    exact ⟨l, ⟨some ad, cap', by rw [h1], by rw [h1]; exact hl, h2⟩, by omega, h3⟩
end
end Go.Proofs.Ytbgcgokikekmoaa.Eng

/- Graphs in plain Lean: what layer 9 answers. No program in sight. -/
namespace Go.Proofs.Ytbgcgokikekmoaa
open Go Go.Proofs.Ytbgcgokikekmoaa.Eng
abbrev tI : Ty := .int .i64 .nil
abbrev tU : Ty := .int .u8 .nil
abbrev tN : Ty := .int .u8 (.int .u8 (.int .i64 (.int .i64 (.sl tI .nil))))
abbrev tP : Ty := .int .i64 (.int .i64 .nil)
abbrev Nd := El tN
def Nd.kind (n : Nd) : Int := n.1
def Nd.a (n : Nd) : Int := n.2.1
def Nd.b (n : Nd) : Int := n.2.2.1
def Nd.dep (n : Nd) : Int := n.2.2.2.1
def Nd.ins (n : Nd) : List (El tI) := n.2.2.2.2.1
def toIn (n i : Int) : Int → List (El tI) → List (El tP)
  | _, [] => []
  | k, x :: r => if x.1 = i then (n, k, ()) :: toIn n i (k + 1) r else toIn n i (k + 1) r
def toOut (i : Int) : Int → List Nd → List (El tP)
  | _, [] => []
  | n, x :: r => toIn n i 0 x.ins ++ toOut i (n + 1) r
def toG (g : List Nd) (i : Int) : List (El tP) := toOut i 0 g
def insG (g : List Nd) (top : Int) : Bool := decide ((g.length : Int) ≤ top) && g.all fun n => decide ((n.ins.length : Int) ≤ top)
def ndC (q : Bool) (n : Nd) : AV := .cons (.v (.int .u8 n.1)) (.cons (.v (.int .u8 n.2.1)) (.cons (.v (.int .i64 n.2.2.1)) (.cons (.v (.int .i64 n.2.2.2.1)) (.cons (.rl q tI n.2.2.2.2.1) .nil))))
theorem lt_t {j n : Nat} (h : decide ((j : Int) < (n : Int)) = true) : j < n := Int.ofNat_lt.1 (of_decide_eq_true h)
theorem lt_f {j n : Nat} (h : decide ((j : Int) < (n : Int)) = false) : n ≤ j := Nat.le_of_not_lt fun hh => of_decide_eq_false h (Int.ofNat_lt.2 hh)
theorem wrapS {j : Nat} (h : j < 4611686018427387904) : IntKind.i64.wrap ((j : Int) + 1) = ((j + 1 : Nat) : Int) := by
  rw [IntKind.wrap_i64]; omega
abbrev u8 (x : Int) : El tU := (IntKind.u8.wrap x, ())
theorem wrapI {x : Int} (h1 : -9223372036854775808 ≤ x) (h2 : x ≤ 9223372036854775807) : IntKind.i64.wrap x = x := by
  rw [IntKind.wrap_i64]; omega
theorem toIn_len (n i : Int) : ∀ (k : Int) (l : List (El tI)), (toIn n i k l).length ≤ l.length
  | _, [] => Nat.le_refl _
  | k, x :: r => by
    have := toIn_len n i (k + 1) r
    simp only [toIn]
    split <;> simp <;> omega
theorem toOut_len (i : Int) {m : Nat} : ∀ (n : Int) (g : List Nd), (∀ x ∈ g, x.ins.length ≤ m) → (toOut i n g).length ≤ g.length * m
  | _, [], _ => Nat.zero_le _
  | n, x :: r, h => by
    have h1 := toIn_len n i 0 x.ins
    have h2 := h x (by simp)
    have h3 := toOut_len i (n + 1) r fun y hy => h y (by simp [hy])
    simp only [toOut, List.length_append, List.length_cons, Nat.add_mul]
    omega
theorem drop_get {t : Ty} (l : List (El t)) {j : Nat} (h : j < l.length) : l.drop j = getE t l j :: l.drop (j + 1) := by
  rw [List.drop_eq_getElem_cons h]
  congr 1
  unfold getE
  simp [List.getD, h]
theorem getE_mem {t : Ty} (l : List (El t)) {j : Nat} (h : j < l.length) : getE t l j ∈ l := by
  have := getE_ok h
  exact List.mem_of_getElem? this
end Go.Proofs.Ytbgcgokikekmoaa

/- May a node be written: in plain Lean. No program in sight. -/
namespace Go.Proofs.Ytbgcgokikekmoaa
open Go Go.Proofs.Ytbgcgokikekmoaa.Eng
def wrongI (x : Int) : Bool := decide (x < 0) || decide (32 ≤ x)
def idxW : Int → List (El tI) → Int
  | _, [] => -1
  | n, x :: r => if wrongI x.1 then n else idxW (n + 1) r
def hasW (l : List (El tI)) : Bool := decide (idxW 0 l ≥ 0)
def mayN (n : Nd) : Bool := decide (n.dep ≥ 0) && decide (n.dep ≤ 3) && decide ((n.ins.length : Int) ≤ 2) && !hasW n.ins
theorem may_len {n : Nd} (h : mayN n = true) : (Nd.ins n).length ≤ 2 := by
  simp only [mayN, Bool.and_eq_true] at h
  have := of_decide_eq_true h.1.2
  omega
theorem idxW_ge : ∀ (l : List (El tI)) (n : Int), 0 ≤ n → (idxW n l ≥ 0 ↔ l.any (fun x => wrongI x.1) = true)
  | [], n, h => by simp [idxW]
  | x :: r, n, h => by
    simp only [idxW, List.any_cons, Bool.or_eq_true]
    by_cases hx : wrongI x.1 = true
    · simp [hx, h]
    · rw [if_neg hx]; have := idxW_ge r (n + 1) (by omega); simp [hx, this]
theorem hasW_eq (l : List (El tI)) : hasW l = l.any fun x => wrongI x.1 := by
  unfold hasW
  have := idxW_ge l 0 (by omega)
  cases h : l.any (fun x => wrongI x.1) with
  | true => exact decide_eq_true (this.2 h)
  | false => exact decide_eq_false fun hh => by rw [this.1 hh] at h; cases h
end Go.Proofs.Ytbgcgokikekmoaa

/- Which graphs are the same; which may be written: in plain Lean. No program in sight. -/
namespace Go.Proofs.Ytbgcgokikekmoaa
open Go Go.Proofs.Ytbgcgokikekmoaa.Eng
def eqI : List (El tI) → List (El tI) → Bool
  | [], [] => true
  | x :: r, y :: s => (x.1 == y.1) && eqI r s
  | _, _ => false
theorem eqI_iff : ∀ (l m : List (El tI)), eqI l m = true ↔ l = m
  | [], [] => by simp [eqI]
  | x :: r, y :: s => by
    obtain ⟨a, ⟨⟩⟩ := x
    obtain ⟨b, ⟨⟩⟩ := y
    simp only [eqI, Bool.and_eq_true, List.cons.injEq, eqI_iff r s, beq_iff_eq, Prod.mk.injEq, and_true]
  | [], y :: s => by simp [eqI]
  | x :: r, [] => by simp [eqI]
def eqN (x y : Nd) : Bool := (x.1 == y.1) && ((x.2.1 == y.2.1) && ((x.2.2.1 == y.2.2.1) && ((x.2.2.2.1 == y.2.2.2.1) && eqI x.2.2.2.2.1 y.2.2.2.2.1)))
theorem eqN_iff (x y : Nd) : eqN x y = true ↔ x = y := by
  obtain ⟨a, b, c, d, l, ⟨⟩⟩ := x
  obtain ⟨a', b', c', d', l', ⟨⟩⟩ := y
  simp only [eqN, Bool.and_eq_true, eqI_iff, beq_iff_eq, Prod.mk.injEq, and_true]
def eqG : List Nd → List Nd → Bool
  | [], [] => true
  | x :: r, y :: s => eqN x y && eqG r s
  | _, _ => false
theorem eqG_iff : ∀ (l m : List Nd), eqG l m = true ↔ l = m
  | [], [] => by simp [eqG]
  | x :: r, y :: s => by simp only [eqG, Bool.and_eq_true, List.cons.injEq, eqG_iff r s, eqN_iff]
  | [], y :: s => by simp [eqG]
  | x :: r, [] => by simp [eqG]
theorem eqI_len {l m : List (El tI)} (h : l.length ≠ m.length) : eqI l m = false := by
  cases e : eqI l m with
  | false => rfl
  | true => rw [eqI_iff] at e; rw [e] at h; exact absurd rfl h
theorem eqG_len {l m : List Nd} (h : l.length ≠ m.length) : eqG l m = false := by
  cases e : eqG l m with
  | false => rfl
  | true => rw [eqG_iff] at e; rw [e] at h; exact absurd rfl h
theorem eqN_len {x y : Nd} (h : (Nd.ins x).length ≠ (Nd.ins y).length) : eqN x y = false := by
  cases e : eqN x y with
  | false => rfl
  | true => rw [eqN_iff] at e; rw [e] at h; exact absurd rfl h
theorem bne_t {a b : Int} (h : (a != b) = true) : a ≠ b := fun e => by rw [e] at h; simp at h
theorem bne_f {a b : Int} (h : (a != b) = false) : a = b := by simpa using h
theorem beq_t {a b : Int} (h : (a == b) = true) : a = b := eq_of_beq h
theorem beq_f {a b : Int} (h : (a == b) = false) : a ≠ b := ne_of_beq_false h
theorem bnl_t {a b : Nat} (h : ((a : Int) != (b : Int)) = true) : a ≠ b := fun e => bne_t h (by rw [e])
theorem bnl_f {a b : Nat} (h : ((a : Int) != (b : Int)) = false) : a = b := by have := bne_f h; omega
theorem not_t {b : Bool} (h : (!b) = true) : b = false := by simpa using h
theorem not_f {b : Bool} (h : (!b) = false) : b = true := by simpa using h
theorem eqI_step {l m : List (El tI)} {j : Nat} (h1 : j < l.length) (h2 : j < m.length) : eqI (l.drop j) (m.drop j) = (((getE tI l j).1 == (getE tI m j).1) && eqI (l.drop (j + 1)) (m.drop (j + 1))) := by
  rw [drop_get l h1, drop_get m h2]; rfl
theorem eqI_end {l m : List (El tI)} {j : Nat} (h1 : l.length ≤ j) (h2 : m.length ≤ j) : eqI (l.drop j) (m.drop j) = true := by
  rw [List.drop_eq_nil_of_le h1, List.drop_eq_nil_of_le h2]; rfl
theorem eqG_step {l m : List Nd} {j : Nat} (h1 : j < l.length) (h2 : j < m.length) : eqG (l.drop j) (m.drop j) = (eqN (getE tN l j) (getE tN m j) && eqG (l.drop (j + 1)) (m.drop (j + 1))) := by
  rw [drop_get l h1, drop_get m h2]; rfl
theorem eqG_end {l m : List Nd} {j : Nat} (h1 : l.length ≤ j) (h2 : m.length ≤ j) : eqG (l.drop j) (m.drop j) = true := by
  rw [List.drop_eq_nil_of_le h1, List.drop_eq_nil_of_le h2]; rfl
def neH (x y : Nd) : Bool := bif bif bif bif x.1 != y.1 then true else x.2.1 != y.2.1 then true else x.2.2.1 != y.2.2.1 then true else x.2.2.2.1 != y.2.2.2.1 then true else ((x.2.2.2.2.1.length : Int) != (y.2.2.2.2.1.length : Int))
theorem neH_t {x y : Nd} (h : neH x y = true) : eqN x y = false := by
  cases e : eqN x y with
  | false => rfl
  | true =>
    rw [eqN_iff] at e
    subst e
    simp [neH] at h
theorem neH_f {x y : Nd} (h : neH x y = false) : eqN x y = eqI (Nd.ins x) (Nd.ins y) ∧ (Nd.ins x).length = (Nd.ins y).length := by
  simp only [neH, Bool.cond_true_left, Bool.or_eq_false_iff] at h
  obtain ⟨⟨⟨⟨h1, h2⟩, h3⟩, h4⟩, h5⟩ := h
  refine ⟨?_, bnl_f h5⟩
  unfold eqN
  rw [beq_iff_eq.2 (bne_f h1), beq_iff_eq.2 (bne_f h2), beq_iff_eq.2 (bne_f h3), beq_iff_eq.2 (bne_f h4)]
  rfl
def mayG (g : List Nd) : Bool := g.all mayN && (decide (1 ≤ (g.length : Int)) && decide ((g.length : Int) ≤ 32))
theorem wr_eq (x : Int) : (bif decide (x < 0) then true else decide (x > 31)) = wrongI x := by
  unfold wrongI
  rw [Bool.cond_true_left]
  rfl
def maH (n : Nd) : Bool := bif bif decide (n.2.2.2.1 < 0) then true else decide (n.2.2.2.1 > 3) then true else decide ((n.2.2.2.2.1.length : Int) > 2)
theorem maH_t {n : Nd} (h : maH n = true) : mayN n = false := by
  simp only [maH, Bool.cond_true_left, Bool.or_eq_true] at h
  unfold mayN Nd.dep Nd.ins
  rcases h with (h | h) | h <;> have h := of_decide_eq_true h
  · rw [decide_eq_false (by omega)]; rfl
  · rw [decide_eq_false (p := _ ≤ 3) (by omega), Bool.and_false]; rfl
  · rw [decide_eq_false (p := _ ≤ 2) (by omega), Bool.and_false]; rfl
theorem maH_f {n : Nd} (h : maH n = false) : mayN n = !(Nd.ins n).any fun x => wrongI x.1 := by
  simp only [maH, Bool.cond_true_left, Bool.or_eq_false_iff] at h
  obtain ⟨⟨h1, h2⟩, h3⟩ := h
  have h1 := of_decide_eq_false h1
  have h2 := of_decide_eq_false h2
  have h3 := of_decide_eq_false h3
  unfold mayN Nd.dep Nd.ins
  rw [hasW_eq, decide_eq_true (p := _ ≥ 0) (by omega), decide_eq_true (p := _ ≤ 3) (by omega), decide_eq_true (p := _ ≤ 2) (by omega)]
  rfl
theorem insG_spec {g : List Nd} {top : Int} (h : insG g top = true) : (g.length : Int) ≤ top ∧ ∀ n ∈ g, ((Nd.ins n).length : Int) ≤ top := by
  unfold insG at h
  rw [Bool.and_eq_true] at h
  refine ⟨of_decide_eq_true h.1, fun n hn => ?_⟩
  exact of_decide_eq_true (List.all_eq_true.1 h.2 n hn)
theorem wr_any {l : List (El tI)} {k : Nat} (hk : k < l.length) (h : (bif decide ((getE tI l k).1 < 0) then true else decide ((getE tI l k).1 > 31)) = true) (hi : ((l.drop k).any fun x => wrongI x.1) = l.any fun x => wrongI x.1) : (l.any fun x => wrongI x.1) = true := by
  rw [wr_eq] at h
  rw [← hi, drop_get _ hk, List.any_cons, h, Bool.true_or]
theorem take_get {t : Ty} (l : List (El t)) {j : Nat} (h : j < l.length) : l.take (j + 1) = l.take j ++ [getE t l j] := by
  rw [List.take_succ_eq_append_getElem h]
  congr 2
  unfold getE
  simp [List.getD, h]
def pick (i n : Int) : Int := if n ≤ 0 then 0 else (IntKind.i64.wrap (i.tmod n + n)).tmod n
end Go.Proofs.Ytbgcgokikekmoaa

/- A graph's bytes: in plain Lean. No program in sight. -/
namespace Go.Proofs.Ytbgcgokikekmoaa
open Go Go.Proofs.Ytbgcgokikekmoaa.Eng
def putN (n : Nd) : List (El tU) := (n.kind, ()) :: (n.a, ()) :: u8 (n.b.fdiv (2 ^ 56)) :: u8 (n.b.fdiv (2 ^ 48)) :: u8 (n.b.fdiv (2 ^ 40)) :: u8 (n.b.fdiv (2 ^ 32)) :: u8 (n.b.fdiv (2 ^ 24)) :: u8 (n.b.fdiv (2 ^ 16)) :: u8 (n.b.fdiv (2 ^ 8)) :: u8 (n.b.fdiv (2 ^ 0)) :: u8 n.dep :: u8 n.ins.length :: n.ins.map fun x => u8 x.1
theorem putN_len (n : Nd) : (putN n).length = 12 + (Nd.ins n).length := by
  simp only [putN, List.length_cons, List.length_map]
  omega
def putF : List Nd → Option (List (El tU))
  | [] => some []
  | n :: r => if mayN n then (putF r).map (putN n ++ ·) else none
def putG (g : List Nd) : List (El tU) × Int :=
  if g.length < 1 ∨ 32 < g.length then ([], 3) else match putF g with
    | none => ([], 90)
    | some l => (u8 g.length :: l, 0)
theorem putF_all : ∀ (g : List Nd), putF g = if g.all mayN = true then some (g.flatMap putN) else none
  | [] => rfl
  | n :: r => by
    rw [putF, putF_all r, List.all_cons, List.flatMap_cons]
    by_cases h : mayN n = true
    · rw [if_pos h, h, Bool.true_and]
      split <;> rfl
    · have h' : mayN n = false := by simpa using h
      rw [if_neg h, h', Bool.false_and]
      rfl
def putR (n : Nd) : List (El tU) := (n.kind, ()) :: (n.a, ()) :: u8 ((IntKind.u64.wrap n.b).fdiv (2 ^ 56)) :: u8 ((IntKind.u64.wrap n.b).fdiv (2 ^ 48)) :: u8 ((IntKind.u64.wrap n.b).fdiv (2 ^ 40)) :: u8 ((IntKind.u64.wrap n.b).fdiv (2 ^ 32)) :: u8 ((IntKind.u64.wrap n.b).fdiv (2 ^ 24)) :: u8 ((IntKind.u64.wrap n.b).fdiv (2 ^ 16)) :: u8 ((IntKind.u64.wrap n.b).fdiv (2 ^ 8)) :: u8 ((IntKind.u64.wrap n.b).fdiv (2 ^ 0)) :: u8 n.dep :: u8 n.ins.length :: n.ins.map fun x => u8 x.1
theorem sh_eq (b : Int) {k : Nat} (h : k ≤ 7) : u8 ((IntKind.u64.wrap b).fdiv (2 ^ (8 * k))) = u8 (b.fdiv (2 ^ (8 * k))) := by
  have : k = 0 ∨ k = 1 ∨ k = 2 ∨ k = 3 ∨ k = 4 ∨ k = 5 ∨ k = 6 ∨ k = 7 := by omega
  unfold u8
  congr 1
  rw [IntKind.wrap_u64, IntKind.wrap_u8, IntKind.wrap_u8]
  rcases this with rfl | rfl | rfl | rfl | rfl | rfl | rfl | rfl
  all_goals (rw [Int.fdiv_eq_ediv_of_nonneg _ (by decide), Int.fdiv_eq_ediv_of_nonneg _ (by decide)]; omega)
theorem putR_eq (n : Nd) : putR n = putN n := by
  unfold putR putN
  have h := fun k hk => sh_eq n.b (k := k) hk
  have h0 := h 0 (by decide)
  have h1 := h 1 (by decide)
  have h2 := h 2 (by decide)
  have h3 := h 3 (by decide)
  have h4 := h 4 (by decide)
  have h5 := h 5 (by decide)
  have h6 := h 6 (by decide)
  have h7 := h 7 (by decide)
  simp only [Nat.mul_zero, Nat.mul_one, Nat.reduceMul] at h0 h1 h2 h3 h4 h5 h6 h7
  rw [h0, h1, h2, h3, h4, h5, h6, h7]
end Go.Proofs.Ytbgcgokikekmoaa

/- Layer 10 in plain Lean: what the code computes. No program in sight. -/
namespace Go.Proofs.Ytbgcgokikekmoaa
open Go Go.Proofs.Ytbgcgokikekmoaa.Eng
abbrev tB : Ty := .bool .nil
abbrev tBB : Ty := .sl tB .nil
abbrev Mx := List (El tBB)
def rowM (m : Mx) (i : Nat) : List (El tB) := (getE tBB m i).1
def getB (m : Mx) (i j : Nat) : Bool := (getE tB (rowM m i) j).1
def setB (m : Mx) (i j : Nat) (b : Bool) : Mx := m.set i ((rowM m i).set j (b, ()), ())
def stayB (least : Int) (n : Nd) : Bool := bif decide (n.dep > least) then true else bif n.dep == least then n.kind != 9 else false
def falseR (n : Nat) : List (El tB) := List.replicate n (false, ())
def pB (g : List Nd) (least : Int) (i : Nat) (p : El tP) (m : Mx) : Mx := setB m i p.1.toNat (bif stayB least (getE tN g i) then stayB least (getE tN g p.1.toNat) else false)
def pK (g : List Nd) (least : Int) (i : Nat) (l : List (El tP)) (m : Mx) : Nat → Mx
  | 0 => m
  | k + 1 => pB g least i (getE tP l k) (pK g least i l m k)
def wA (g : List Nd) (least : Int) : Nat → Mx
  | 0 => List.replicate g.length ([], ())
  | i + 1 => pK g least i (toG g i) ((wA g least i).set i (falseR g.length, ())) (toG g i).length
def stJ (m : Mx) (k i : Nat) : Nat → Mx
  | 0 => m
  | j + 1 => setB (stJ m k i j) i j (bif getB (stJ m k i j) i j then true else bif getB (stJ m k i j) i k then getB (stJ m k i j) k j else false)
def stI (m : Mx) (n k : Nat) : Nat → Mx
  | 0 => m
  | i + 1 => stJ (stI m n k i) k i n
def stK (m : Mx) (n : Nat) : Nat → Mx
  | 0 => m
  | k + 1 => stI (stK m n k) n k n
def waysG (g : List Nd) (least : Int) : Mx := stK (wA g least g.length) g.length g.length
def sq (n : Nat) (m : Mx) : Prop := m.length = n ∧ ∀ i, i < n → (rowM m i).length = n
def sqU (n u : Nat) (m : Mx) : Prop := m.length = n ∧ ∀ i, i < u → (rowM m i).length = n
theorem rowM_set {m : Mx} {i j : Nat} {r : El tBB} : rowM (m.set i r) j = if i = j ∧ i < m.length then r.1 else rowM m j := by
  unfold rowM getE
  simp only [List.getD_eq_getElem?_getD, List.getElem?_set]
  by_cases h : i = j
  · subst h
    by_cases hl : i < m.length
    · simp [hl]
    · simp [hl]
  · simp [h]
theorem sqU_setB {n u : Nat} {m : Mx} {i j : Nat} {b : Bool} (h : sqU n u m) : sqU n u (setB m i j b) := by
  refine ⟨by simp [setB, h.1], fun k hk => ?_⟩
  unfold setB
  rw [rowM_set]
  split
  · rename_i hh
    rw [List.length_set, hh.1]
    exact h.2 k hk
  · exact h.2 k hk
theorem sqU_pK {g : List Nd} {least : Int} {n u i : Nat} {l : List (El tP)} {m : Mx} (h : sqU n u m) : ∀ k, sqU n u (pK g least i l m k)
  | 0 => h
  | k + 1 => sqU_setB (sqU_pK h k)
theorem sqU_row {n u : Nat} {m : Mx} (h : sqU n u m) (hu : u < n) : sqU n (u + 1) (m.set u (falseR n, ())) := by
  refine ⟨by simp [h.1], fun k hk => ?_⟩
  rw [rowM_set]
  split
  · simp [falseR]
  · rename_i hh
    refine h.2 k ?_
    have : u < m.length := by rw [h.1]; exact hu
    omega
theorem sqU_wA {g : List Nd} {least : Int} : ∀ i, i ≤ g.length → sqU g.length i (wA g least i)
  | 0, _ => ⟨by simp [wA], fun k hk => absurd hk (Nat.not_lt_zero _)⟩
  | i + 1, h => sqU_pK (sqU_row (sqU_wA i (by omega)) (by omega)) _
theorem sqU_stJ {n : Nat} {m : Mx} (h : sqU n n m) (k i : Nat) : ∀ j, sqU n n (stJ m k i j)
  | 0 => h
  | j + 1 => sqU_setB (sqU_stJ h k i j)
theorem sqU_stI {n : Nat} {m : Mx} (h : sqU n n m) (k : Nat) : ∀ i, sqU n n (stI m n k i)
  | 0 => h
  | i + 1 => sqU_stJ (sqU_stI h k i) k i n
theorem sqU_stK {n : Nat} {m : Mx} (h : sqU n n m) : ∀ k, sqU n n (stK m n k)
  | 0 => h
  | k + 1 => sqU_stI (sqU_stK h k) k n
def few (g : List Nd) : Prop := g.length ≤ 32 ∧ ∀ x : Nd, x ∈ g → (Nd.ins x).length ≤ 2
theorem toIn_at {n i : Int} : ∀ (k : Int) (l : List (El tI)), ∀ p ∈ toIn n i k l, p.1 = n
  | _, [], p, h => by simp [toIn] at h
  | k, x :: r, p, h => by
    simp only [toIn] at h
    split at h
    · rcases List.mem_cons.1 h with h | h
      · rw [h]
      · exact toIn_at _ r p h
    · exact toIn_at _ r p h
theorem toOut_at {i : Int} : ∀ (n : Nat) (g : List Nd), ∀ p ∈ toOut i (n : Int) g, ∃ j : Nat, p.1 = j ∧ j < n + g.length
  | _, [], p, h => by simp [toOut] at h
  | n, x :: r, p, h => by
    simp only [toOut, List.mem_append] at h
    rcases h with h | h
    · exact ⟨n, toIn_at _ _ p h, by simp⟩
    · obtain ⟨j, e, hj⟩ := toOut_at (n + 1) r p (by push_cast; exact h)
      exact ⟨j, e, by simp only [List.length_cons]; omega⟩
theorem toG_at {g : List Nd} {i : Int} {k : Nat} (hk : k < (toG g i).length) : ∃ j : Nat, (getE tP (toG g i) k).1 = j ∧ j < g.length := by
  have : getE tP (toG g i) k ∈ toG g i := by
    unfold getE
    simp only [List.getD_eq_getElem?_getD, List.getElem?_eq_getElem hk]
    exact List.getElem_mem hk
  obtain ⟨j, e, hj⟩ := toOut_at (i := i) 0 g _ (by simpa [toG] using this)
  exact ⟨j, e, by simpa using hj⟩
theorem few_to {g : List Nd} (h : few g) (i : Int) : (toG g i).length ≤ 64 := by
  have := toOut_len i 0 g h.2
  have h1 := h.1
  unfold toG
  omega
def plB (n : Nd) : Bool := bif n.a == 0 then n.b == 0 else false
def n1B (n : Nd) : Bool := bif decide (n.a ≤ 3) then (bif decide (n.a < 3) then true else decide (n.b > 0)) else false
def n2B (n : Nd) : Bool := bif decide (n.a ≤ 2) then (bif n.a != 1 then true else decide (n.b > 0)) else false
def n3B (n : Nd) : Bool := bif decide (n.a ≤ 3) then n.b == 0 else false
def n4B (n : Nd) : Bool := bif (bif n.a == 0 then decide (n.b ≥ 1) else false) then decide (n.b ≤ 16) else false
def numK (k : Int) (n : Nd) : Bool :=
  if k = 2 then n1B n else if k = 3 then n2B n else if k = 5 then n3B n else if k = 9 then n4B n else if k = 1 ∨ k = 4 ∨ k = 6 ∨ k = 7 ∨ k = 8 ∨ k = 10 then plB n else false
def numB (n : Nd) : Bool := numK n.kind n
theorem kindCases (k : Int) : k = 0 ∨ k = 1 ∨ k = 2 ∨ k = 3 ∨ k = 4 ∨ k = 5 ∨ k = 6 ∨ k = 7 ∨ k = 8 ∨ k = 9 ∨ k = 10 ∨ (∃ n : Nat, k = Int.ofNat (n + 11)) ∨ ∃ n : Nat, k = Int.negSucc n := by
  rcases k with k | k
  · rcases (by omega : k = 0 ∨ k = 1 ∨ k = 2 ∨ k = 3 ∨ k = 4 ∨ k = 5 ∨ k = 6 ∨ k = 7 ∨ k = 8 ∨ k = 9 ∨ k = 10 ∨ 11 ≤ k) with h | h | h | h | h | h | h | h | h | h | h | h
    all_goals (first | (subst h; simp; done) | skip)
    refine .inr (.inr (.inr (.inr (.inr (.inr (.inr (.inr (.inr (.inr (.inr (.inl ⟨k - 11, ?_⟩)))))))))))
    congr 1; omega
  · exact .inr (.inr (.inr (.inr (.inr (.inr (.inr (.inr (.inr (.inr (.inr (.inr ⟨k, rfl⟩)))))))))))
def idxP (p : Int → Bool) : Nat → List (El tI) → Int
  | _, [] => -1
  | j, x :: r => if p x.1 = true then (j : Int) else idxP p (j + 1) r
def hasP (p : Int → Bool) (l : List (El tI)) : Bool := decide (idxP p 0 l ≥ 0)
theorem idxP_any (p : Int → Bool) : ∀ (j : Nat) (l : List (El tI)), decide (idxP p j l ≥ 0) = l.any fun x => p x.1
  | _, [] => rfl
  | j, x :: r => by
    unfold idxP
    cases h : p x.1 with
    | true => simp [h]
    | false => simp only [h, if_false, List.any_cons, Bool.false_or, Bool.false_eq_true]; exact idxP_any p (j + 1) r
theorem hasP_any (p : Int → Bool) (l : List (El tI)) : hasP p l = l.any fun x => p x.1 := idxP_any p 0 l
def nd (g : List Nd) (i : Int) : Nd := getE tN g i.toNat
def wrongB (g : List Nd) (i : Int) : Bool := bif (bif decide (i < 0) then true else decide (i ≥ (g.length : Int))) then true else (nd g i).kind == 10
def otherB (g : List Nd) (fed i : Int) : Bool := (nd g i).dep != fed
def missB (th : List (El tB)) (i : Int) : Bool := !(getE tB th i.toNat).1
def backB (g : List Nd) (least : Int) (to : Mx) (at_ n : Int) : Bool := bif (bif (nd g n).dep == least then getB to at_.toNat n.toNat else false) then getB to n.toNat at_.toNat else false
def backP (g : List Nd) (to : Mx) (at_ n : Int) : Prop :=
  0 ≤ n ∧ n < (g.length : Int) ∧ (0 ≤ at_ ∧ at_ < (to.length : Int)) ∧ (0 ≤ n ∧ n < ((getE tBB to at_.toNat).1.length : Int)) ∧ (0 ≤ n ∧ n < (to.length : Int)) ∧ (0 ≤ at_ ∧ at_ < ((getE tBB to n.toNat).1.length : Int)) ∧ True
def arK (k : Int) : Int := if k = 1 then 0 else if k = 4 ∨ k = 6 then 2 else 1
def portsB (g : List Nd) (n : Nd) : Bool := bif ((n.ins.length : Nat) : Int) == arK n.kind then !hasP (wrongB g) n.ins else false
def fedK (k d : Int) : Int := if k = 7 then IntKind.i64.wrap (d - 1) else if k = 8 then IntKind.i64.wrap (d + 1) else d
def depthB (g : List Nd) (n : Nd) : Bool :=
  if n.kind = 9 ∧ n.dep < 1 then false else if (n.kind = 1 ∨ n.kind = 10) ∧ n.dep ≠ 0 then false else
    bif (bif decide (n.dep ≥ 0) then decide (n.dep ≤ 3) else false) then !hasP (otherB g (fedK n.kind n.dep)) n.ins else false
def nodeE (g : List Nd) (i : Int) : Int :=
  if i < 0 ∨ i ≥ (g.length : Int) then 2 else if numB (nd g i) = false then 130 else if portsB g (nd g i) = false then 100 else if depthB g (nd g i) = false then 101 else 0
theorem portsB_in {g : List Nd} {n : Nd} (h : portsB g n = true) : ∀ x ∈ n.ins, 0 ≤ x.1 ∧ x.1 < (g.length : Int) := fun x hx => by
  unfold portsB at h
  cases hl : (((n.ins.length : Nat) : Int) == arK n.kind) with
  | false => rw [hl] at h; cases h
  | true =>
    rw [hl, cond_true, Bool.not_eq_true', hasP_any] at h
    have := List.any_eq_false.1 h x hx
    unfold wrongB at this
    by_cases h1 : x.1 < 0
    · simp [h1] at this
    · by_cases h2 : x.1 ≥ (g.length : Int)
      · simp [h1, h2] at this
      · omega
def plN : Nat → List (El tI)
  | 0 => []
  | i + 1 => plN i ++ [((i : Int), ())]
theorem plN_len : ∀ n, (plN n).length = n
  | 0 => rfl
  | n + 1 => by simp [plN, plN_len n]
theorem plN_mem : ∀ {n : Nat} {x : El tI}, x ∈ plN n → ∃ j : Nat, j < n ∧ x.1 = j
  | 0, x, h => by cases h
  | n + 1, x, h => by
    simp only [plN, List.mem_append, List.mem_singleton] at h
    rcases h with h | h
    · obtain ⟨j, hj, e⟩ := plN_mem h
      exact ⟨j, by omega, e⟩
    · exact ⟨n, by omega, by rw [h]⟩
def backI (g : List Nd) (least i : Nat) : Bool := hasP (backB g least (waysG g least) i) (plN g.length)
def stL (g : List Nd) (least at_ : Nat) : Nat → Nat → Nat
  | 0, _ => at_
  | f + 1, i => if backI g least i = true then i else stL g least at_ f (i + 1)
def stW (g : List Nd) : Nat → Nat
  | 0 => g.length
  | k + 1 => stL g k (stW g k) (stW g k) 0
def stuckG (g : List Nd) : Nat := stW g 4
theorem stL_le {g : List Nd} {least at_ : Nat} : ∀ (f i : Nat), i + f ≤ at_ → stL g least at_ f i ≤ at_
  | 0, _, _ => Nat.le_refl _
  | f + 1, i, h => by
    unfold stL
    split
    · omega
    · exact stL_le f (i + 1) (by omega)
theorem stW_le {g : List Nd} : ∀ k, stW g k ≤ g.length
  | 0 => Nat.le_refl _
  | k + 1 => Nat.le_trans (stL_le _ _ (by omega)) (stW_le k)
def readyB (th : List (El tB)) (i : Nat) (n : Nd) : Bool := bif !(getE tB th i).1 then (bif n.kind == 9 then true else !hasP (missB th) n.ins) else false
def nextR (th : List (El tB)) : Nat → List Nd → Option Nat
  | _, [] => none
  | i, n :: r => if readyB th i n = true then some i else nextR th (i + 1) r
def ordN (g : List Nd) : Nat → List (El tB) → List (El tI) → List (El tI)
  | 0, _, out => out
  | f + 1, th, out => match nextR th 0 g with
    | none => out
    | some i => ordN g f (th.set i (true, ())) (out ++ [((i : Int), ())])
def orderG (g : List Nd) : List (El tI) := ordN g (g.length + 1) (falseR g.length) []
def badL (g : List Nd) : Nat → List Nd → Option Nat
  | _, [] => none
  | i, _ :: r => if nodeE g (i : Int) ≠ 0 then some i else badL g (i + 1) r
def checkG (g : List Nd) : Int × Int :=
  if (putG g).2 ≠ 0 then (0, (putG g).2) else match badL g 0 g with
    | some i => ((i : Int), nodeE g (i : Int))
    | none => if stuckG g < g.length then ((stuckG g : Int), 102) else ((g.length : Int), 0)
def orderC (g : List Nd) : List (El tI) × Int := if (checkG g).2 ≠ 0 then ([], (checkG g).2) else (orderG g, 0)
end Go.Proofs.Ytbgcgokikekmoaa

/- Layer 10, the document's stuck, as it reckons. No program in sight. -/
namespace Go.Proofs.Ytbgcgokikekmoaa
open Go Go.Proofs.Ytbgcgokikekmoaa.Eng
def dbl (x : Int) : Int := IntKind.i64.wrap (2 * x)
def nx1 (p t : Int) : Int := IntKind.i64.wrap (dbl p + t.tmod 2)
def nx2 (p : Int) : Int := IntKind.i64.wrap (dbl p + 1)
def nxt (g : List Nd) (least p t : Int) : Int := if (nd g p).dep = least then nx2 p else nx1 p t
def bfsI (g : List Nd) (fr least t : Int) : List (El tP) → List (El tB) → List (El tI) → Option (List (El tB) × List (El tI))
  | [], s, q => some (s, q)
  | p :: r, s, q =>
    if stayB least (nd g p.1) = true then
      if nxt g least p.1 t = nx2 fr then none
      else if (getE tB s (nxt g least p.1 t).toNat).1 = true then bfsI g fr least t r s q
      else bfsI g fr least t r (s.set (nxt g least p.1 t).toNat (true, ())) (q ++ [(nxt g least p.1 t, ())])
    else bfsI g fr least t r s q
def half (t : Int) : Int := IntKind.i64.wrap (t.tdiv 2)
def bfsO (g : List Nd) (fr least : Int) : Nat → Nat → List (El tB) → List (El tI) → Bool
  | 0, _, _, _ => false
  | f + 1, i, s, q => if i < q.length then
      match bfsI g fr least (getE tI q i).1 (toG g (half (getE tI q i).1)) s q with
      | none => true
      | some (s', q') => bfsO g fr least f (i + 1) s' q'
    else false
def rstuckB (g : List Nd) (fr least : Int) : Bool :=
  if stayB least (nd g fr) = true then bfsO g fr least (2 * g.length + 2) 0 (falseR (2 * g.length)) [(if (nd g fr).dep = least then nx2 fr else dbl fr, ())] else false
theorem bfsI_nil (g : List Nd) (fr least t : Int) (s : List (El tB)) (q : List (El tI)) : bfsI g fr least t [] s q = some (s, q) := rfl
theorem bfsI_cons (g : List Nd) (fr least t : Int) (p : El tP) (r : List (El tP)) (s : List (El tB)) (q : List (El tI)) : bfsI g fr least t (p :: r) s q =
    if stayB least (nd g p.1) = true then
      if nxt g least p.1 t = nx2 fr then none
      else if (getE tB s (nxt g least p.1 t).toNat).1 = true then bfsI g fr least t r s q
      else bfsI g fr least t r (s.set (nxt g least p.1 t).toNat (true, ())) (q ++ [(nxt g least p.1 t, ())])
    else bfsI g fr least t r s q := rfl
theorem bfsO_s (g : List Nd) (fr least : Int) (f i : Nat) (s : List (El tB)) (q : List (El tI)) : bfsO g fr least (f + 1) i s q = if i < q.length then
      match bfsI g fr least (getE tI q i).1 (toG g (half (getE tI q i).1)) s q with
      | none => true
      | some (s', q') => bfsO g fr least f (i + 1) s' q'
    else false := rfl
theorem nxt_t {g : List Nd} {least p t : Int} (h : (nd g p).dep = least) : nxt g least p t = nx2 p := by unfold nxt; rw [if_pos h]
theorem nxt_f {g : List Nd} {least p t : Int} (h : ¬ (nd g p).dep = least) : nxt g least p t = nx1 p t := by unfold nxt; rw [if_neg h]
end Go.Proofs.Ytbgcgokikekmoaa

/- The table of this seat's types for the engine, with its proofs: printed by wip/tool/gen_ty.py. -/
namespace Go.Proofs.Ytbgcgokikekmoaa
open Go Go.RowKit Go.Proofs.Ytbgcgokikekmoaa.Eng
theorem ty2 : TIok Try.prog 2 {ze := some (.int .i64 0), eq := some [0], ik := some .i64, by_ := 8, ro := some (.int .i64 .nil)} := ti0 rfl (by kernel_rfl) (by kernel_rfl) (by kernel_rfl) ⟨.inr ⟨by kernel_rfl, by kernel_rfl⟩, .inr (by kernel_rfl)⟩ (by kernel_rfl) (.inr rfl) (.inr (by kernel_rfl))
theorem ty3 : TIok Try.prog 3 {ze := some (.int .i64 0), eq := some [0], ik := some .i64, by_ := 8, ro := some (.int .i64 .nil)} := ti0 rfl (by kernel_rfl) (by kernel_rfl) (by kernel_rfl) ⟨.inr ⟨by kernel_rfl, by kernel_rfl⟩, .inr (by kernel_rfl)⟩ (by kernel_rfl) (.inr rfl) (.inr (by kernel_rfl))
theorem ty4 : TIok Try.prog 4 {ze := some (.bool false), eq := some [1], by_ := 1, ro := some (.bool .nil)} := ti0 rfl (by kernel_rfl) (by kernel_rfl) (by kernel_rfl) ⟨.inr ⟨by kernel_rfl, by kernel_rfl⟩, .inl rfl⟩ (by kernel_rfl) (.inr rfl) (.inr (by kernel_rfl))
theorem ty5 : TIok Try.prog 5 {ze := some (.int .u8 0), eq := some [0], ik := some .u8, by_ := 1, ro := some (.int .u8 .nil)} := ti0 rfl (by kernel_rfl) (by kernel_rfl) (by kernel_rfl) ⟨.inr ⟨by kernel_rfl, by kernel_rfl⟩, .inr (by kernel_rfl)⟩ (by kernel_rfl) (.inr rfl) (.inr (by kernel_rfl))
theorem ty9 : TIok Try.prog 9 {kd := 5, ze := some (.string "".toUTF8), eq := some [2], by_ := 16, ro := some (.str .nil)} := ti5 rfl (by kernel_rfl) (by kernel_rfl) (by kernel_rfl) ⟨.inr ⟨by kernel_rfl, by kernel_rfl⟩, .inl rfl⟩ (by kernel_rfl) (.inr rfl) (.inr (by kernel_rfl)) (by kernel_rfl)
theorem ty12 : TIok Try.prog 12 {ze := some (.int .u64 0), eq := some [0], ik := some .u64, by_ := 8, ro := some (.int .u64 .nil)} := ti0 rfl (by kernel_rfl) (by kernel_rfl) (by kernel_rfl) ⟨.inr ⟨by kernel_rfl, by kernel_rfl⟩, .inr (by kernel_rfl)⟩ (by kernel_rfl) (.inr rfl) (.inr (by kernel_rfl))
theorem ty21 : TIok Try.prog 21 {ze := some (.int .i32 0), eq := some [0], ik := some .i32, by_ := 4, ro := some (.int .i32 .nil)} := ti0 rfl (by kernel_rfl) (by kernel_rfl) (by kernel_rfl) ⟨.inr ⟨by kernel_rfl, by kernel_rfl⟩, .inr (by kernel_rfl)⟩ (by kernel_rfl) (.inr rfl) (.inr (by kernel_rfl))
theorem ty22 : TIok Try.prog 22 {kd := 3, el := 39, ze := some (.slice none 0 0), by_ := 24, ro := some (.sl (.int .u8 (.int .u8 (.int .i64 (.int .i64 (.sl (.int .i64 .nil) .nil))))) .nil)} := ti3 rfl (by kernel_rfl) (by kernel_rfl) (by kernel_rfl) ⟨.inl rfl, .inl rfl⟩ (by kernel_rfl) (.inr rfl) (.inr (by kernel_rfl)) (by kernel_rfl)
theorem ty23 : TIok Try.prog 23 {kd := 3, el := 39, ze := some (.slice none 0 0), by_ := 24, ro := some (.sl (.int .u8 (.int .u8 (.int .i64 (.int .i64 (.sl (.int .i64 .nil) .nil))))) .nil)} := ti3 rfl (by kernel_rfl) (by kernel_rfl) (by kernel_rfl) ⟨.inl rfl, .inl rfl⟩ (by kernel_rfl) (.inr rfl) (.inr (by kernel_rfl)) (by kernel_rfl)
theorem ty27 : TIok Try.prog 27 {ze := some (.int .i64 0), eq := some [0], ik := some .i64, by_ := 8, ro := some (.int .i64 .nil)} := ti0 rfl (by kernel_rfl) (by kernel_rfl) (by kernel_rfl) ⟨.inr ⟨by kernel_rfl, by kernel_rfl⟩, .inr (by kernel_rfl)⟩ (by kernel_rfl) (.inr rfl) (.inr (by kernel_rfl))
theorem ty33 : TIok Try.prog 33 {kd := 3, el := 3, ze := some (.slice none 0 0), by_ := 24, ro := some (.sl (.int .i64 .nil) .nil)} := ti3 rfl (by kernel_rfl) (by kernel_rfl) (by kernel_rfl) ⟨.inl rfl, .inl rfl⟩ (by kernel_rfl) (.inr rfl) (.inr (by kernel_rfl)) (by kernel_rfl)
theorem ty37 : TIok Try.prog 37 {kd := 3, el := 4, ze := some (.slice none 0 0), by_ := 24, ro := some (.sl (.bool .nil) .nil), own := some [some 4]} := ti3 rfl (by kernel_rfl) (by kernel_rfl) (by kernel_rfl) ⟨.inl rfl, .inl rfl⟩ (by kernel_rfl) (.inr rfl) (.inr (by kernel_rfl)) (by kernel_rfl)
theorem ty38 : TIok Try.prog 38 {kd := 1, sz := 5, ag := true, fl := [(0, 5), (1, 5), (2, 2), (3, 3), (4, 33)], pl := [(0, 1), (1, 1), (2, 1), (3, 1), (4, 1)], ze := some (.agg #[.int .u8 0, .int .u8 0, .int .i64 0, .int .i64 0, .slice none 0 0]), by_ := 48, ro := some (.int .u8 (.int .u8 (.int .i64 (.int .i64 (.sl (.int .i64 .nil) .nil)))))} := ti1 rfl (by kernel_rfl) (by kernel_rfl) (by kernel_rfl) ⟨.inl rfl, .inl rfl⟩ (by kernel_rfl) (.inr rfl) (.inr (by kernel_rfl)) Try.underlying38 rfl (by kernel_rfl)
theorem ty39 : TIok Try.prog 39 {kd := 1, sz := 5, ag := true, fl := [(0, 5), (1, 5), (2, 2), (3, 3), (4, 33)], pl := [(0, 1), (1, 1), (2, 1), (3, 1), (4, 1)], ze := some (.agg #[.int .u8 0, .int .u8 0, .int .i64 0, .int .i64 0, .slice none 0 0]), by_ := 48, ro := some (.int .u8 (.int .u8 (.int .i64 (.int .i64 (.sl (.int .i64 .nil) .nil)))))} := ti1 rfl (by kernel_rfl) (by kernel_rfl) (by kernel_rfl) ⟨.inl rfl, .inl rfl⟩ (by kernel_rfl) (.inr rfl) (.inr (by kernel_rfl)) Try.underlying39 rfl (by kernel_rfl)
theorem ty40 : TIok Try.prog 40 {kd := 3, el := 5, ze := some (.slice none 0 0), by_ := 24, ro := some (.sl (.int .u8 .nil) .nil)} := ti3 rfl (by kernel_rfl) (by kernel_rfl) (by kernel_rfl) ⟨.inl rfl, .inl rfl⟩ (by kernel_rfl) (.inr rfl) (.inr (by kernel_rfl)) (by kernel_rfl)
theorem ty43 : TIok Try.prog 43 {kd := 3, el := 23, ze := some (.slice none 0 0), by_ := 24, ro := some (.sl (.sl (.int .u8 (.int .u8 (.int .i64 (.int .i64 (.sl (.int .i64 .nil) .nil))))) .nil) .nil)} := ti3 rfl (by kernel_rfl) (by kernel_rfl) (by kernel_rfl) ⟨.inl rfl, .inl rfl⟩ (by kernel_rfl) (.inr rfl) (.inr (by kernel_rfl)) (by kernel_rfl)
theorem ty44 : TIok Try.prog 44 {kd := 3, el := 2, ze := some (.slice none 0 0), by_ := 24, ro := some (.sl (.int .i64 .nil) .nil)} := ti3 rfl (by kernel_rfl) (by kernel_rfl) (by kernel_rfl) ⟨.inl rfl, .inl rfl⟩ (by kernel_rfl) (.inr rfl) (.inr (by kernel_rfl)) (by kernel_rfl)
theorem ty45 : TIok Try.prog 45 {kd := 3, el := 33, ze := some (.slice none 0 0), by_ := 24, ro := some (.sl (.sl (.int .i64 .nil) .nil) .nil)} := ti3 rfl (by kernel_rfl) (by kernel_rfl) (by kernel_rfl) ⟨.inl rfl, .inl rfl⟩ (by kernel_rfl) (.inr rfl) (.inr (by kernel_rfl)) (by kernel_rfl)
theorem ty53 : TIok Try.prog 53 {kd := 4, el := 46, ky := 5, fz := true, mv := some (false, false, .int .u8 .nil, .fn), ze := some (.map none), by_ := 8} := ti4 rfl (by kernel_rfl) (by kernel_rfl) (by kernel_rfl) ⟨.inl rfl, .inl rfl⟩ (by kernel_rfl) (.inl rfl) (.inr (by kernel_rfl)) (by kernel_rfl) (.inr (by kernel_rfl))
theorem ty58 : TIok Try.prog 58 {kd := 3, el := 37, ze := some (.slice none 0 0), by_ := 24, ro := some (.sl (.sl (.bool .nil) .nil) .nil)} := ti3 rfl (by kernel_rfl) (by kernel_rfl) (by kernel_rfl) ⟨.inl rfl, .inl rfl⟩ (by kernel_rfl) (.inr rfl) (.inr (by kernel_rfl)) (by kernel_rfl)
theorem ty60 : TIok Try.prog 60 {ze := some (.int .u64 0), eq := some [0], ik := some .u64, by_ := 8, ro := some (.int .u64 .nil)} := ti0 rfl (by kernel_rfl) (by kernel_rfl) (by kernel_rfl) ⟨.inr ⟨by kernel_rfl, by kernel_rfl⟩, .inr (by kernel_rfl)⟩ (by kernel_rfl) (.inr rfl) (.inr (by kernel_rfl))
theorem ty62 : TIok Try.prog 62 {kd := 3, el := 65, ze := some (.slice none 0 0), by_ := 24, ro := some (.sl (.int .i64 (.int .i64 .nil)) .nil)} := ti3 rfl (by kernel_rfl) (by kernel_rfl) (by kernel_rfl) ⟨.inl rfl, .inl rfl⟩ (by kernel_rfl) (.inr rfl) (.inr (by kernel_rfl)) (by kernel_rfl)
theorem ty64 : TIok Try.prog 64 {kd := 1, sz := 2, ag := true, fl := [(0, 3), (1, 3)], pl := [(0, 1), (1, 1)], ze := some (.agg #[.int .i64 0, .int .i64 0]), eq := some [0, 0], by_ := 16, ro := some (.int .i64 (.int .i64 .nil))} := ti1 rfl (by kernel_rfl) (by kernel_rfl) (by kernel_rfl) ⟨.inr ⟨by kernel_rfl, by kernel_rfl⟩, .inl rfl⟩ (by kernel_rfl) (.inr rfl) (.inr (by kernel_rfl)) Try.underlying64 rfl (by kernel_rfl)
theorem ty65 : TIok Try.prog 65 {kd := 1, sz := 2, ag := true, fl := [(0, 3), (1, 3)], pl := [(0, 1), (1, 1)], ze := some (.agg #[.int .i64 0, .int .i64 0]), eq := some [0, 0], by_ := 16, ro := some (.int .i64 (.int .i64 .nil))} := ti1 rfl (by kernel_rfl) (by kernel_rfl) (by kernel_rfl) ⟨.inr ⟨by kernel_rfl, by kernel_rfl⟩, .inl rfl⟩ (by kernel_rfl) (.inr rfl) (.inr (by kernel_rfl)) Try.underlying65 rfl (by kernel_rfl)
theorem ty67 : TIok Try.prog 67 {kd := 3, el := 69, ze := some (.slice none 0 0), by_ := 24, ro := some (.sl (.int .i64 (.int .i64 .nil)) .nil)} := ti3 rfl (by kernel_rfl) (by kernel_rfl) (by kernel_rfl) ⟨.inl rfl, .inl rfl⟩ (by kernel_rfl) (.inr rfl) (.inr (by kernel_rfl)) (by kernel_rfl)
theorem ty69 : TIok Try.prog 69 {kd := 1, sz := 2, ag := true, fl := [(0, 3), (1, 3)], pl := [(0, 1), (1, 1)], ze := some (.agg #[.int .i64 0, .int .i64 0]), eq := some [0, 0], by_ := 16, ro := some (.int .i64 (.int .i64 .nil))} := ti1 rfl (by kernel_rfl) (by kernel_rfl) (by kernel_rfl) ⟨.inr ⟨by kernel_rfl, by kernel_rfl⟩, .inl rfl⟩ (by kernel_rfl) (.inr rfl) (.inr (by kernel_rfl)) Try.underlying69 rfl (by kernel_rfl)
theorem ty77 : TIok Try.prog 77 {ze := some (.int .u32 0), eq := some [0], ik := some .u32, by_ := 4, ro := some (.int .u32 .nil)} := ti0 rfl (by kernel_rfl) (by kernel_rfl) (by kernel_rfl) ⟨.inr ⟨by kernel_rfl, by kernel_rfl⟩, .inr (by kernel_rfl)⟩ (by kernel_rfl) (.inr rfl) (.inr (by kernel_rfl))
theorem ty81 : TIok Try.prog 81 {ze := some (.pointer none), by_ := 8} := ti0 rfl (by kernel_rfl) (by kernel_rfl) (by kernel_rfl) ⟨.inl rfl, .inl rfl⟩ (by kernel_rfl) (.inl rfl) (.inr (by kernel_rfl))
def tys : List (TypeId × TI) := [
  (2, {ze := some (.int .i64 0), eq := some [0], ik := some .i64, by_ := 8, ro := some (.int .i64 .nil)}),
  (3, {ze := some (.int .i64 0), eq := some [0], ik := some .i64, by_ := 8, ro := some (.int .i64 .nil)}),
  (4, {ze := some (.bool false), eq := some [1], by_ := 1, ro := some (.bool .nil)}),
  (5, {ze := some (.int .u8 0), eq := some [0], ik := some .u8, by_ := 1, ro := some (.int .u8 .nil)}),
  (9, {kd := 5, ze := some (.string "".toUTF8), eq := some [2], by_ := 16, ro := some (.str .nil)}),
  (12, {ze := some (.int .u64 0), eq := some [0], ik := some .u64, by_ := 8, ro := some (.int .u64 .nil)}),
  (21, {ze := some (.int .i32 0), eq := some [0], ik := some .i32, by_ := 4, ro := some (.int .i32 .nil)}),
  (22, {kd := 3, el := 39, ze := some (.slice none 0 0), by_ := 24, ro := some (.sl (.int .u8 (.int .u8 (.int .i64 (.int .i64 (.sl (.int .i64 .nil) .nil))))) .nil)}),
  (23, {kd := 3, el := 39, ze := some (.slice none 0 0), by_ := 24, ro := some (.sl (.int .u8 (.int .u8 (.int .i64 (.int .i64 (.sl (.int .i64 .nil) .nil))))) .nil)}),
  (27, {ze := some (.int .i64 0), eq := some [0], ik := some .i64, by_ := 8, ro := some (.int .i64 .nil)}),
  (33, {kd := 3, el := 3, ze := some (.slice none 0 0), by_ := 24, ro := some (.sl (.int .i64 .nil) .nil)}),
  (37, {kd := 3, el := 4, ze := some (.slice none 0 0), by_ := 24, ro := some (.sl (.bool .nil) .nil), own := some [some 4]}),
  (38, {kd := 1, sz := 5, ag := true, fl := [(0, 5), (1, 5), (2, 2), (3, 3), (4, 33)], pl := [(0, 1), (1, 1), (2, 1), (3, 1), (4, 1)], ze := some (.agg #[.int .u8 0, .int .u8 0, .int .i64 0, .int .i64 0, .slice none 0 0]), by_ := 48, ro := some (.int .u8 (.int .u8 (.int .i64 (.int .i64 (.sl (.int .i64 .nil) .nil)))))}),
  (39, {kd := 1, sz := 5, ag := true, fl := [(0, 5), (1, 5), (2, 2), (3, 3), (4, 33)], pl := [(0, 1), (1, 1), (2, 1), (3, 1), (4, 1)], ze := some (.agg #[.int .u8 0, .int .u8 0, .int .i64 0, .int .i64 0, .slice none 0 0]), by_ := 48, ro := some (.int .u8 (.int .u8 (.int .i64 (.int .i64 (.sl (.int .i64 .nil) .nil)))))}),
  (40, {kd := 3, el := 5, ze := some (.slice none 0 0), by_ := 24, ro := some (.sl (.int .u8 .nil) .nil)}),
  (43, {kd := 3, el := 23, ze := some (.slice none 0 0), by_ := 24, ro := some (.sl (.sl (.int .u8 (.int .u8 (.int .i64 (.int .i64 (.sl (.int .i64 .nil) .nil))))) .nil) .nil)}),
  (44, {kd := 3, el := 2, ze := some (.slice none 0 0), by_ := 24, ro := some (.sl (.int .i64 .nil) .nil)}),
  (45, {kd := 3, el := 33, ze := some (.slice none 0 0), by_ := 24, ro := some (.sl (.sl (.int .i64 .nil) .nil) .nil)}),
  (53, {kd := 4, el := 46, ky := 5, fz := true, mv := some (false, false, .int .u8 .nil, .fn), ze := some (.map none), by_ := 8}),
  (58, {kd := 3, el := 37, ze := some (.slice none 0 0), by_ := 24, ro := some (.sl (.sl (.bool .nil) .nil) .nil)}),
  (60, {ze := some (.int .u64 0), eq := some [0], ik := some .u64, by_ := 8, ro := some (.int .u64 .nil)}),
  (62, {kd := 3, el := 65, ze := some (.slice none 0 0), by_ := 24, ro := some (.sl (.int .i64 (.int .i64 .nil)) .nil)}),
  (64, {kd := 1, sz := 2, ag := true, fl := [(0, 3), (1, 3)], pl := [(0, 1), (1, 1)], ze := some (.agg #[.int .i64 0, .int .i64 0]), eq := some [0, 0], by_ := 16, ro := some (.int .i64 (.int .i64 .nil))}),
  (65, {kd := 1, sz := 2, ag := true, fl := [(0, 3), (1, 3)], pl := [(0, 1), (1, 1)], ze := some (.agg #[.int .i64 0, .int .i64 0]), eq := some [0, 0], by_ := 16, ro := some (.int .i64 (.int .i64 .nil))}),
  (67, {kd := 3, el := 69, ze := some (.slice none 0 0), by_ := 24, ro := some (.sl (.int .i64 (.int .i64 .nil)) .nil)}),
  (69, {kd := 1, sz := 2, ag := true, fl := [(0, 3), (1, 3)], pl := [(0, 1), (1, 1)], ze := some (.agg #[.int .i64 0, .int .i64 0]), eq := some [0, 0], by_ := 16, ro := some (.int .i64 (.int .i64 .nil))}),
  (77, {ze := some (.int .u32 0), eq := some [0], ik := some .u32, by_ := 4, ro := some (.int .u32 .nil)}),
  (81, {ze := some (.pointer none), by_ := 8})]
theorem tys_ok : AllTy Try.prog tys := ⟨ty2, ty3, ty4, ty5, ty9, ty12, ty21, ty22, ty23, ty27, ty33, ty37, ty38, ty39, ty40, ty43, ty44, ty45, ty53, ty58, ty60, ty62, ty64, ty65, ty67, ty69, ty77, ty81, trivial⟩
theorem mixed : Try.prog.follows .mixedOrders = true := by kernel_rfl
end Go.Proofs.Ytbgcgokikekmoaa

/- Layer 10, the document: numbers, ports, depth, Node, stays. -/
namespace Go.Proofs.Ytbgcgokikekmoaa
set_option maxRecDepth 100000
open Go Go.RowKit Go.Proofs.Ytbgcgokikekmoaa.Eng
def k_rstays : Sig := .arg (shT tN) fun n => .arg shI fun least => .done { pre := True, res := B (stayB least n) }
set_option maxHeartbeats 4000000 in
theorem c_rstays : FnOk Try.prog 49 k_rstays.con := by
  refine fnOkS mixed tys_ok (cs := []) trivial Try.func49 rfl (by kernel_rfl) Try.ntmps49 _ (h := ?_)
  intro n least
  refine ⟨rfl, fun _ => ?_⟩
  conv => whnf
  repeat' ((first
    | with_reducible refine ⟨fun h => h, ?_⟩
    | with_reducible refine ⟨pk1, ?_⟩
    | with_reducible refine ⟨pk2, ?_⟩
    | with_reducible refine ⟨pk3, ?_⟩
    | with_reducible refine ⟨pk4, ?_⟩
    | with_reducible refine ⟨pk5, ?_⟩
    | with_reducible refine ⟨pk6, ?_⟩
    | with_reducible refine ⟨trivial, ?_⟩
    | with_reducible refine ⟨fun _ => trivial, ?_⟩
    | with_reducible refine ⟨rfl, ?_⟩
    | with_reducible refine every_i (fun hd => ?_)
    | with_reducible refine everyN_i (fun k hk => ?_)
    | with_reducible refine everyD_i (fun d hd => ?_)
    | with_reducible refine fork_t (by assumption) ?_
    | with_reducible refine fork_f (by assumption) ?_
    | refine fork_t rfl ?_
    | refine fork_f rfl ?_
    | with_reducible refine fork_i (fun h => ?_) (fun h => ?_)
    | with_reducible refine both_i ?_ ?_
    | ((with_reducible refine alike_i ?_); exact ⟨rfl, rfl, rfl⟩)
    | ((with_reducible refine fin_i ?_); (conv => whnf); refine ⟨rfl, ?_⟩)
    | refine ⟨of_decide_eq_true rfl, ?_⟩
    | refine ⟨fun _ => of_decide_eq_true rfl, ?_⟩
    | ((with_reducible refine ⟨?_, ?_⟩); (focus (intros; simp_all; done)))
    | ((with_reducible refine ⟨?_, ?_⟩); (focus (intros; omega)))) <;> (try (conv => whnf)))
  all_goals ((with_reducible refine leaf_i ?_); (conv => whnf))
  repeat' ((with_reducible refine And.intro ?_ ?_) <;> (try (conv => whnf)))
  all_goals (try (first | with_reducible rfl | exact True.intro | rfl | exact id | exact fun h => h | exact fun _ => rfl))
  all_goals first | rfl | trace_state
theorem num_2 {n : Nd} (h : n.kind = 2) : numB n = n1B n := by unfold numB numK; rw [if_pos h]
theorem num_3 {n : Nd} (h : n.kind = 3) : numB n = n2B n := by unfold numB numK; rw [h]; rfl
theorem num_5 {n : Nd} (h : n.kind = 5) : numB n = n3B n := by unfold numB numK; rw [h]; rfl
theorem num_9 {n : Nd} (h : n.kind = 9) : numB n = n4B n := by unfold numB numK; rw [h]; rfl
theorem num_o {n : Nd} (h2 : n.kind ≠ 2) (h3 : n.kind ≠ 3) (h5 : n.kind ≠ 5) (h9 : n.kind ≠ 9) : numB n = (bif (bif (bif decide (n.kind ≥ 1) then decide (n.kind ≤ 10) else false) then n.a == 0 else false) then n.b == 0 else false) := by
  unfold numB numK
  rw [if_neg h2, if_neg h3, if_neg h5, if_neg h9]
  split
  · rename_i h
    have h1 : decide (n.kind ≥ 1) = true := decide_eq_true (by omega)
    have h0 : decide (n.kind ≤ 10) = true := decide_eq_true (by omega)
    rw [h1, h0]
    rfl
  · rename_i h
    by_cases h1 : n.kind ≥ 1
    · have : ¬ n.kind ≤ 10 := by omega
      simp [this]
    · simp [h1]
def k_rnumbers : Sig := .arg (shT tN) fun n => .done { pre := True, res := B (numB n) }
set_option maxHeartbeats 4000000 in
theorem c_rnumbers : FnOk Try.prog 27 k_rnumbers.con := by
  refine fnOkS mixed tys_ok (cs := []) trivial Try.func27 rfl (by kernel_rfl) Try.ntmps27 _ (h := ?_)
  intro n
  refine ⟨rfl, fun _ => ?_⟩
  conv => whnf
  repeat' ((first
    | with_reducible refine ⟨fun h => h, ?_⟩
    | with_reducible refine ⟨pk1, ?_⟩
    | with_reducible refine ⟨pk2, ?_⟩
    | with_reducible refine ⟨pk3, ?_⟩
    | with_reducible refine ⟨pk4, ?_⟩
    | with_reducible refine ⟨pk5, ?_⟩
    | with_reducible refine ⟨pk6, ?_⟩
    | with_reducible refine ⟨trivial, ?_⟩
    | with_reducible refine ⟨fun _ => trivial, ?_⟩
    | with_reducible refine ⟨rfl, ?_⟩
    | with_reducible refine every_i (fun hd => ?_)
    | with_reducible refine everyN_i (fun k hk => ?_)
    | with_reducible refine everyD_i (fun d hd => ?_)
    | with_reducible refine fork_t (by assumption) ?_
    | with_reducible refine fork_f (by assumption) ?_
    | refine fork_t rfl ?_
    | refine fork_f rfl ?_
    | with_reducible refine fork_i (fun h => ?_) (fun h => ?_)
    | with_reducible refine both_i ?_ ?_
    | ((with_reducible refine alike_i ?_); exact ⟨rfl, rfl, rfl⟩)
    | ((with_reducible refine fin_i ?_); (conv => whnf); refine ⟨rfl, ?_⟩)
    | refine ⟨of_decide_eq_true rfl, ?_⟩
    | refine ⟨fun _ => of_decide_eq_true rfl, ?_⟩
    | ((with_reducible refine ⟨?_, ?_⟩); (focus (intros; simp_all; done)))
    | ((with_reducible refine ⟨?_, ?_⟩); (focus (intros; omega)))) <;> (try (conv => whnf)))
  all_goals ((with_reducible refine leaf_i ?_); (conv => whnf))
  repeat' ((with_reducible refine And.intro ?_ ?_) <;> (try (conv => whnf)))
  all_goals (try (first | with_reducible rfl | exact True.intro | rfl | exact id | exact fun h => h | exact fun _ => rfl))
  · have hk : Nd.kind n = 2 := eq_of_beq h
    rw [num_2 hk]
    show _ = n1B n
    unfold n1B Nd.a Nd.b
    by_cases h1 : n.2.1 ≤ 3
    · by_cases h2 : n.2.1 < 3
      · have : (n.2.1 != 3) = true := by simp; omega
        simp [h1, h2, this]
      · have : n.2.1 = 3 := by omega
        simp [this]
    · simp [h1]
  · have hk : Nd.kind n = 3 := eq_of_beq h
    rw [num_3 hk]; rfl
  · have hk : Nd.kind n = 5 := eq_of_beq h
    rw [num_5 hk]; rfl
  · have hk : Nd.kind n = 9 := eq_of_beq h
    rw [num_9 hk]; rfl
  · rw [num_o]
    · rfl
    all_goals (unfold Nd.kind; simp_all)
theorem hasP_at (p : Int → Bool) {l : List (El tI)} {j : Nat} (hj : j < l.length) (h : p (getE tI l j).1 = true) : hasP p l = true := by
  rw [hasP_any, List.any_eq_true]
  exact ⟨_, getE_mem l hj, h⟩
theorem hasP_no (p : Int → Bool) {l : List (El tI)} (h : ∀ j, j < l.length → p (getE tI l j).1 = false) : hasP p l = false := by
  rw [hasP_any, List.any_eq_false]
  intro x hx
  obtain ⟨j, hj, e⟩ := List.getElem_of_mem hx
  have := h j hj
  unfold getE at this
  simp [hj, e] at this
  simp [this]
def k_rports : Sig := .arg (shR tN) fun g => .arg (shT tN) fun n => .done { pre := (Nd.ins n).length < 4611686018427387904, res := B (portsB g n) }
set_option maxHeartbeats 4000000 in
theorem c_rports : FnOk Try.prog 28 k_rports.con := by
  refine fnOkS mixed tys_ok (cs := []) trivial Try.func28 rfl (by kernel_rfl) Try.ntmps28 _ (h := ?_)
  intro g n
  refine ⟨rfl, fun hp => ?_⟩
  have hp : (Nd.ins n).length < 4611686018427387904 := hp
  have hgd : ∀ j : Nat, ((bif decide ((getE tI (Nd.ins n) j).1 < 0) then true else decide ((getE tI (Nd.ins n) j).1 ≥ (g.length : Int))) == false) = true → 0 ≤ (getE tI (Nd.ins n) j).1 ∧ (getE tI (Nd.ins n) j).1 < (g.length : Int) := fun j h => by
    by_cases h1 : (getE tI (Nd.ins n) j).1 < 0
    · simp [h1] at h
    · by_cases h2 : (getE tI (Nd.ins n) j).1 ≥ (g.length : Int)
      · simp [h1, h2] at h
      · omega
  conv => whnf
  repeat' ((first
    | with_reducible refine ⟨fun h => h, ?_⟩
    | with_reducible refine ⟨pk1, ?_⟩
    | with_reducible refine ⟨pk2, ?_⟩
    | with_reducible refine ⟨pk3, ?_⟩
    | with_reducible refine ⟨pk4, ?_⟩
    | with_reducible refine ⟨pk5, ?_⟩
    | with_reducible refine ⟨pk6, ?_⟩
    | with_reducible refine ⟨trivial, ?_⟩
    | with_reducible refine ⟨fun _ => trivial, ?_⟩
    | with_reducible refine ⟨rfl, ?_⟩
    | with_reducible refine every_i (fun hd => ?_)
    | with_reducible refine everyN_i (fun k hk => ?_)
    | with_reducible refine everyD_i (fun d hd => ?_)
    | with_reducible refine fork_t (by assumption) ?_
    | with_reducible refine fork_f (by assumption) ?_
    | refine fork_t rfl ?_
    | refine fork_f rfl ?_
    | with_reducible refine fork_i (fun h => ?_) (fun h => ?_)
    | with_reducible refine both_i ?_ ?_
    | ((with_reducible refine alike_i ?_); exact ⟨rfl, rfl, rfl⟩)
    | ((with_reducible refine fin_i ?_); (conv => whnf); refine ⟨rfl, ?_⟩)
    | refine ⟨of_decide_eq_true rfl, ?_⟩
    | refine ⟨fun _ => of_decide_eq_true rfl, ?_⟩
    | ((with_reducible refine ⟨?_, ?_⟩); (focus (intros; simp_all; done)))
    | ((with_reducible refine ⟨?_, ?_⟩); (focus (intros; omega)))) <;> (try (conv => whnf)))
  all_goals
    refine only [5, 3, 0] ?_
    (conv => whnf)
    refine looped (σ := Nat) (fun j => [(6, I j)]) (fun _ => [.cells (ndC false n)]) (fun j => j ≤ (Nd.ins n).length ∧ ∀ i, i < j → wrongB g (getE tI (Nd.ins n) i).1 = false) (fun j => (Nd.ins n).length - j) 0 ⟨Nat.zero_le _, fun i hi => absurd hi (Nat.not_lt_zero _)⟩ ?_ ?_
    · conv => whnf
      refine ⟨rfl, leaf_i ?_⟩
      repeat' ((with_reducible refine And.intro ?_ ?_) <;> (try (conv => whnf)))
      all_goals (try (first | with_reducible rfl | exact True.intro | rfl | exact id | exact fun h => h | exact fun _ => rfl))
    · rintro j ⟨hj, hw⟩
      dsimp only at hj hw ⊢
      have hgd := hgd j
      conv => whnf
      repeat' ((first
        | with_reducible refine ⟨fun h => h, ?_⟩
        | with_reducible refine ⟨pk1, ?_⟩
        | with_reducible refine ⟨pk2, ?_⟩
        | with_reducible refine ⟨pk3, ?_⟩
        | with_reducible refine ⟨pk4, ?_⟩
        | with_reducible refine ⟨pk5, ?_⟩
        | with_reducible refine ⟨pk6, ?_⟩
        | with_reducible refine ⟨trivial, ?_⟩
        | with_reducible refine ⟨fun _ => trivial, ?_⟩
        | with_reducible refine ⟨rfl, ?_⟩
        | with_reducible refine every_i (fun hd => ?_)
        | with_reducible refine everyN_i (fun k hk => ?_)
        | with_reducible refine everyD_i (fun d hd => ?_)
        | with_reducible refine fork_t (by assumption) ?_
        | with_reducible refine fork_f (by assumption) ?_
        | refine fork_t rfl ?_
        | refine fork_f rfl ?_
        | with_reducible refine fork_i (fun h => ?_) (fun h => ?_)
        | with_reducible refine both_i ?_ ?_
        | ((with_reducible refine alike_i ?_); exact ⟨rfl, rfl, rfl⟩)
        | ((with_reducible refine fin_i ?_); (conv => whnf); refine ⟨rfl, ?_⟩)
        | refine ⟨hgd, ?_⟩
        | refine ⟨of_decide_eq_true rfl, ?_⟩
        | refine ⟨fun _ => of_decide_eq_true rfl, ?_⟩
        | ((with_reducible refine ⟨?_, ?_⟩); (focus (intros; simp_all; done)))
        | ((with_reducible refine ⟨?_, ?_⟩); (focus (intros; omega)))) <;> (try (conv => whnf)))
      · rename_i hj'
        have hj' : j < (Nd.ins n).length := lt_t hj'
        have hwr : wrongB g (getE tI (Nd.ins n) j).1 = true := h
        have hno : portsB g n = false := by unfold portsB; rw [hasP_at (wrongB g) hj' hwr]; simp
        all_goals ((with_reducible refine leaf_i ?_); (conv => whnf))
        repeat' ((with_reducible refine And.intro ?_ ?_) <;> (try (conv => whnf)))
        all_goals (try (first | with_reducible rfl | exact True.intro | rfl | exact id | exact fun h => h | exact fun _ => rfl))
        all_goals exact hno.symm
      · rename_i hj'
        have hj' : j < (Nd.ins n).length := lt_t hj'
        have hwr : wrongB g (getE tI (Nd.ins n) j).1 = false := h
        refine next_i (j + 1) ⟨hj', fun i hi => ?_⟩ (by omega) rfl rfl ?_
        · by_cases e : i = j
          · subst e; exact hwr
          · exact hw i (by omega)
        · conv => whnf
          refine ⟨rfl, leaf_i ?_⟩
          repeat' ((with_reducible refine And.intro ?_ ?_) <;> (try (conv => whnf)))
          all_goals (try (first | with_reducible rfl | exact True.intro | rfl | exact id | exact fun h => h | exact fun _ => rfl))
          all_goals (try (first | rfl | exact wrapS (by omega)))
      · rename_i hk
        have hj' : (Nd.ins n).length ≤ j := lt_f h
        have hall : hasP (wrongB g) (Nd.ins n) = false := hasP_no _ fun i hi => hw i (by omega)
        all_goals ((with_reducible refine leaf_i ?_); (conv => whnf))
        repeat' ((with_reducible refine And.intro ?_ ?_) <;> (try (conv => whnf)))
        all_goals (try (first | with_reducible rfl | exact True.intro | rfl | exact id | exact fun h => h | exact fun _ => rfl))
        all_goals (unfold portsB; rw [hall]; simp only [arK, Nd.kind, Nd.ins, Bool.not_false, Bool.cond_true_left]; (try simp_all); done)
def earlyB (n : Nd) : Bool := bif (bif bif decide (n.2.2.2.1 < 0) then true else decide (n.2.2.2.1 > 3) then true else bif bif n.1 == 1 then true else n.1 == 10 then n.2.2.2.1 != 0 else false) then true else bif n.1 == 9 then decide (n.2.2.2.1 < 1) else false
theorem early_iff {n : Nd} : earlyB n = true ↔ (n.dep < 0 ∨ n.dep > 3) ∨ ((n.kind = 1 ∨ n.kind = 10) ∧ n.dep ≠ 0) ∨ (n.kind = 9 ∧ n.dep < 1) := by
  unfold earlyB
  simp only [Bool.cond_true_left, Bool.cond_false_right, Bool.or_eq_true, Bool.and_eq_true, decide_eq_true_eq, beq_iff_eq, bne_iff_ne, ne_eq]
  show ((n.dep < 0 ∨ n.dep > 3) ∨ ((n.kind = 1 ∨ n.kind = 10) ∧ ¬ n.dep = 0)) ∨ (n.kind = 9 ∧ n.dep < 1) ↔ _
  exact or_assoc
theorem early_no {g : List Nd} {n : Nd} (h : earlyB n = true) : depthB g n = false := by
  rw [early_iff] at h
  unfold depthB
  split
  · rfl
  · split
    · rfl
    · rename_i h1 h2
      have : n.dep < 0 ∨ n.dep > 3 := by
        rcases h with h | h | h
        · exact h
        · exact absurd h h2
        · exact absurd h h1
      rcases this with h | h
      · have : ¬ n.dep ≥ 0 := by omega
        simp [this]
      · have : ¬ n.dep ≤ 3 := by omega
        simp [this]
theorem depthB_in {g : List Nd} {n : Nd} (h : ¬ earlyB n = true) : depthB g n = !hasP (otherB g (fedK n.kind n.dep)) n.ins := by
  rw [early_iff] at h
  unfold depthB
  rw [if_neg (fun hh => h (.inr (.inr hh))), if_neg (fun hh => h (.inr (.inl hh)))]
  have h1 : decide (n.dep ≥ 0) = true := decide_eq_true (by omega)
  have h2 : decide (n.dep ≤ 3) = true := decide_eq_true (by omega)
  rw [h1, h2]; rfl
theorem no_early {n : Nd} (h : earlyB n = false) : ¬ earlyB n = true := by rw [h]; simp
theorem other_t {g : List Nd} {w x y : Int} (hf : w = x) (h : (w != (nd g y).2.2.2.1) = true) : otherB g x y = true := by
  subst hf; unfold otherB Nd.dep
  rw [bne_iff_ne] at h ⊢
  exact fun e => h e.symm
theorem other_f {g : List Nd} {w x y : Int} (hf : w = x) (h : (w != (nd g y).2.2.2.1) = false) : otherB g x y = false := by
  subst hf; unfold otherB Nd.dep
  rw [bne_eq_false_iff_eq] at h ⊢
  exact h.symm
def k_rdepth : Sig := .arg (shR tN) fun g => .arg (shT tN) fun n => .done { pre := (Nd.ins n).length < 4611686018427387904 ∧ ∀ x ∈ Nd.ins n, 0 ≤ x.1 ∧ x.1 < (g.length : Int), res := B (depthB g n) }
set_option maxHeartbeats 4000000 in
theorem c_rdepth : FnOk Try.prog 29 k_rdepth.con := by
  refine fnOkS mixed tys_ok (cs := []) trivial Try.func29 rfl (by kernel_rfl) Try.ntmps29 _ (h := ?_)
  intro g n
  refine ⟨rfl, fun hp => ?_⟩
  obtain ⟨hp1, hp2⟩ := hp
  conv => whnf
  repeat' ((first
    | with_reducible refine ⟨fun h => h, ?_⟩
    | with_reducible refine ⟨pk1, ?_⟩
    | with_reducible refine ⟨pk2, ?_⟩
    | with_reducible refine ⟨pk3, ?_⟩
    | with_reducible refine ⟨pk4, ?_⟩
    | with_reducible refine ⟨pk5, ?_⟩
    | with_reducible refine ⟨pk6, ?_⟩
    | with_reducible refine ⟨trivial, ?_⟩
    | with_reducible refine ⟨fun _ => trivial, ?_⟩
    | with_reducible refine ⟨rfl, ?_⟩
    | with_reducible refine every_i (fun hd => ?_)
    | with_reducible refine everyN_i (fun k hk => ?_)
    | with_reducible refine everyD_i (fun d hd => ?_)
    | with_reducible refine fork_t (by assumption) ?_
    | with_reducible refine fork_f (by assumption) ?_
    | refine fork_t rfl ?_
    | refine fork_f rfl ?_
    | with_reducible refine fork_i (fun h => ?_) (fun h => ?_)
    | with_reducible refine both_i ?_ ?_
    | ((with_reducible refine alike_i ?_); exact ⟨rfl, rfl, rfl⟩)
    | ((with_reducible refine fin_i ?_); (conv => whnf); refine ⟨rfl, ?_⟩)
    | refine ⟨of_decide_eq_true rfl, ?_⟩
    | refine ⟨fun _ => of_decide_eq_true rfl, ?_⟩
    | ((with_reducible refine ⟨?_, ?_⟩); (focus (intros; simp_all; done)))
    | ((with_reducible refine ⟨?_, ?_⟩); (focus (intros; omega)))) <;> (try (conv => whnf)))
  · have hno : depthB g n = false := early_no h
    all_goals ((with_reducible refine leaf_i ?_); (conv => whnf))
    repeat' ((with_reducible refine And.intro ?_ ?_) <;> (try (conv => whnf)))
    all_goals (try (first | with_reducible rfl | exact True.intro | rfl | exact id | exact fun h => h | exact fun _ => rfl))
    all_goals exact hno.symm
  all_goals have hin0 : ¬ earlyB n = true := no_early (by assumption)
  · have e1 : n.1 = 7 := eq_of_beq (by assumption)
    have e2 : n.1 = 8 := eq_of_beq h
    omega
  · have hfd : IntKind.i64.wrap (n.2.2.2.1 - 1) = fedK (Nd.kind n) (Nd.dep n) := by
      have e1 : Nd.kind n = 7 := eq_of_beq (by assumption)
      unfold fedK; rw [if_pos e1]; rfl
    refine only [5, 3, 0] ?_
    (conv => whnf)
    refine looped (σ := Nat) (fun j => [(6, I j)]) (fun _ => [.cells (ndC false n)]) (fun j => j ≤ (Nd.ins n).length ∧ ∀ i, i < j → otherB g (fedK (Nd.kind n) (Nd.dep n)) (getE tI (Nd.ins n) i).1 = false) (fun j => (Nd.ins n).length - j) 0 ⟨Nat.zero_le _, fun i hi => absurd hi (Nat.not_lt_zero _)⟩ ?_ ?_
    · conv => whnf
      refine ⟨rfl, leaf_i ?_⟩
      repeat' ((with_reducible refine And.intro ?_ ?_) <;> (try (conv => whnf)))
      all_goals (try (first | with_reducible rfl | exact True.intro | rfl | exact id | exact fun h => h | exact fun _ => rfl))
    · rintro j ⟨hj, hw⟩
      dsimp only at hj hw ⊢
      have hin : decide ((j : Int) < ((Nd.ins n).length : Int)) = true → 0 ≤ (getE tI (Nd.ins n) j).1 ∧ (getE tI (Nd.ins n) j).1 < (g.length : Int) := fun h => hp2 _ (getE_mem _ (lt_t h))
      conv => whnf
      repeat' ((first
        | with_reducible refine ⟨fun h => h, ?_⟩
        | with_reducible refine ⟨pk1, ?_⟩
        | with_reducible refine ⟨pk2, ?_⟩
        | with_reducible refine ⟨pk3, ?_⟩
        | with_reducible refine ⟨pk4, ?_⟩
        | with_reducible refine ⟨pk5, ?_⟩
        | with_reducible refine ⟨pk6, ?_⟩
        | with_reducible refine ⟨trivial, ?_⟩
        | with_reducible refine ⟨fun _ => trivial, ?_⟩
        | with_reducible refine ⟨rfl, ?_⟩
        | with_reducible refine every_i (fun hd => ?_)
        | with_reducible refine everyN_i (fun k hk => ?_)
        | with_reducible refine everyD_i (fun d hd => ?_)
        | with_reducible refine fork_t (by assumption) ?_
        | with_reducible refine fork_f (by assumption) ?_
        | refine fork_t rfl ?_
        | refine fork_f rfl ?_
        | with_reducible refine fork_i (fun h => ?_) (fun h => ?_)
        | with_reducible refine both_i ?_ ?_
        | ((with_reducible refine alike_i ?_); exact ⟨rfl, rfl, rfl⟩)
        | ((with_reducible refine fin_i ?_); (conv => whnf); refine ⟨rfl, ?_⟩)
        | refine ⟨hin (by assumption), ?_⟩
        | refine ⟨of_decide_eq_true rfl, ?_⟩
        | refine ⟨fun _ => of_decide_eq_true rfl, ?_⟩
        | ((with_reducible refine ⟨?_, ?_⟩); (focus (intros; simp_all; done)))
        | ((with_reducible refine ⟨?_, ?_⟩); (focus (intros; omega)))) <;> (try (conv => whnf)))
      · rename_i hj'
        have hj' : j < (Nd.ins n).length := lt_t hj'
        have hwr : otherB g (fedK (Nd.kind n) (Nd.dep n)) (getE tI (Nd.ins n) j).1 = true := other_t hfd h
        have hno : depthB g n = false := by rw [depthB_in hin0, hasP_at _ hj' hwr]; simp
        all_goals ((with_reducible refine leaf_i ?_); (conv => whnf))
        repeat' ((with_reducible refine And.intro ?_ ?_) <;> (try (conv => whnf)))
        all_goals (try (first | with_reducible rfl | exact True.intro | rfl | exact id | exact fun h => h | exact fun _ => rfl))
        all_goals exact hno.symm
      · rename_i hj'
        have hj' : j < (Nd.ins n).length := lt_t hj'
        have hwr : otherB g (fedK (Nd.kind n) (Nd.dep n)) (getE tI (Nd.ins n) j).1 = false := other_f hfd h
        refine next_i (j + 1) ⟨hj', fun i hi => ?_⟩ (by omega) rfl rfl ?_
        · by_cases e : i = j
          · subst e; exact hwr
          · exact hw i (by omega)
        · conv => whnf
          refine ⟨rfl, leaf_i ?_⟩
          repeat' ((with_reducible refine And.intro ?_ ?_) <;> (try (conv => whnf)))
          all_goals (try (first | with_reducible rfl | exact True.intro | rfl | exact id | exact fun h => h | exact fun _ => rfl))
          all_goals (try (first | rfl | exact wrapS (by omega)))
      · have hj' : (Nd.ins n).length ≤ j := lt_f h
        have hall : hasP (otherB g (fedK (Nd.kind n) (Nd.dep n))) (Nd.ins n) = false := hasP_no _ fun i hi => hw i (by omega)
        have hyes : depthB g n = true := by rw [depthB_in hin0, hall]; rfl
        all_goals ((with_reducible refine leaf_i ?_); (conv => whnf))
        repeat' ((with_reducible refine And.intro ?_ ?_) <;> (try (conv => whnf)))
        all_goals (try (first | with_reducible rfl | exact True.intro | rfl | exact id | exact fun h => h | exact fun _ => rfl))
        all_goals exact hyes.symm
  · have hfd : IntKind.i64.wrap (n.2.2.2.1 - -1) = fedK (Nd.kind n) (Nd.dep n) := by
      have e1 : Nd.kind n = 8 := eq_of_beq h
      unfold fedK; rw [e1, if_neg (by decide), if_pos rfl]
      show IntKind.i64.wrap (Nd.dep n - -1) = _
      congr 1
    refine only [5, 3, 0] ?_
    (conv => whnf)
    refine looped (σ := Nat) (fun j => [(6, I j)]) (fun _ => [.cells (ndC false n)]) (fun j => j ≤ (Nd.ins n).length ∧ ∀ i, i < j → otherB g (fedK (Nd.kind n) (Nd.dep n)) (getE tI (Nd.ins n) i).1 = false) (fun j => (Nd.ins n).length - j) 0 ⟨Nat.zero_le _, fun i hi => absurd hi (Nat.not_lt_zero _)⟩ ?_ ?_
    · conv => whnf
      refine ⟨rfl, leaf_i ?_⟩
      repeat' ((with_reducible refine And.intro ?_ ?_) <;> (try (conv => whnf)))
      all_goals (try (first | with_reducible rfl | exact True.intro | rfl | exact id | exact fun h => h | exact fun _ => rfl))
    · rintro j ⟨hj, hw⟩
      dsimp only at hj hw ⊢
      have hin : decide ((j : Int) < ((Nd.ins n).length : Int)) = true → 0 ≤ (getE tI (Nd.ins n) j).1 ∧ (getE tI (Nd.ins n) j).1 < (g.length : Int) := fun h => hp2 _ (getE_mem _ (lt_t h))
      conv => whnf
      repeat' ((first
        | with_reducible refine ⟨fun h => h, ?_⟩
        | with_reducible refine ⟨pk1, ?_⟩
        | with_reducible refine ⟨pk2, ?_⟩
        | with_reducible refine ⟨pk3, ?_⟩
        | with_reducible refine ⟨pk4, ?_⟩
        | with_reducible refine ⟨pk5, ?_⟩
        | with_reducible refine ⟨pk6, ?_⟩
        | with_reducible refine ⟨trivial, ?_⟩
        | with_reducible refine ⟨fun _ => trivial, ?_⟩
        | with_reducible refine ⟨rfl, ?_⟩
        | with_reducible refine every_i (fun hd => ?_)
        | with_reducible refine everyN_i (fun k hk => ?_)
        | with_reducible refine everyD_i (fun d hd => ?_)
        | with_reducible refine fork_t (by assumption) ?_
        | with_reducible refine fork_f (by assumption) ?_
        | refine fork_t rfl ?_
        | refine fork_f rfl ?_
        | with_reducible refine fork_i (fun h => ?_) (fun h => ?_)
        | with_reducible refine both_i ?_ ?_
        | ((with_reducible refine alike_i ?_); exact ⟨rfl, rfl, rfl⟩)
        | ((with_reducible refine fin_i ?_); (conv => whnf); refine ⟨rfl, ?_⟩)
        | refine ⟨hin (by assumption), ?_⟩
        | refine ⟨of_decide_eq_true rfl, ?_⟩
        | refine ⟨fun _ => of_decide_eq_true rfl, ?_⟩
        | ((with_reducible refine ⟨?_, ?_⟩); (focus (intros; simp_all; done)))
        | ((with_reducible refine ⟨?_, ?_⟩); (focus (intros; omega)))) <;> (try (conv => whnf)))
      · rename_i hj'
        have hj' : j < (Nd.ins n).length := lt_t hj'
        have hwr : otherB g (fedK (Nd.kind n) (Nd.dep n)) (getE tI (Nd.ins n) j).1 = true := other_t hfd h
        have hno : depthB g n = false := by rw [depthB_in hin0, hasP_at _ hj' hwr]; simp
        all_goals ((with_reducible refine leaf_i ?_); (conv => whnf))
        repeat' ((with_reducible refine And.intro ?_ ?_) <;> (try (conv => whnf)))
        all_goals (try (first | with_reducible rfl | exact True.intro | rfl | exact id | exact fun h => h | exact fun _ => rfl))
        all_goals exact hno.symm
      · rename_i hj'
        have hj' : j < (Nd.ins n).length := lt_t hj'
        have hwr : otherB g (fedK (Nd.kind n) (Nd.dep n)) (getE tI (Nd.ins n) j).1 = false := other_f hfd h
        refine next_i (j + 1) ⟨hj', fun i hi => ?_⟩ (by omega) rfl rfl ?_
        · by_cases e : i = j
          · subst e; exact hwr
          · exact hw i (by omega)
        · conv => whnf
          refine ⟨rfl, leaf_i ?_⟩
          repeat' ((with_reducible refine And.intro ?_ ?_) <;> (try (conv => whnf)))
          all_goals (try (first | with_reducible rfl | exact True.intro | rfl | exact id | exact fun h => h | exact fun _ => rfl))
          all_goals (try (first | rfl | exact wrapS (by omega)))
      · have hj' : (Nd.ins n).length ≤ j := lt_f h
        have hall : hasP (otherB g (fedK (Nd.kind n) (Nd.dep n))) (Nd.ins n) = false := hasP_no _ fun i hi => hw i (by omega)
        have hyes : depthB g n = true := by rw [depthB_in hin0, hall]; rfl
        all_goals ((with_reducible refine leaf_i ?_); (conv => whnf))
        repeat' ((with_reducible refine And.intro ?_ ?_) <;> (try (conv => whnf)))
        all_goals (try (first | with_reducible rfl | exact True.intro | rfl | exact id | exact fun h => h | exact fun _ => rfl))
        all_goals exact hyes.symm
  · have hfd : IntKind.i64.wrap (n.2.2.2.1 - 0) = fedK (Nd.kind n) (Nd.dep n) := by
      have e1 : Nd.kind n ≠ 7 := ne_of_beq_false (by assumption)
      have e2 : Nd.kind n ≠ 8 := ne_of_beq_false h
      unfold fedK; rw [if_neg e1, if_neg e2]
      rw [early_iff] at hin0
      show IntKind.i64.wrap (Nd.dep n - 0) = _
      rw [Int.sub_zero]
      exact wrapI (by omega) (by omega)
    refine only [5, 3, 0] ?_
    (conv => whnf)
    refine looped (σ := Nat) (fun j => [(6, I j)]) (fun _ => [.cells (ndC false n)]) (fun j => j ≤ (Nd.ins n).length ∧ ∀ i, i < j → otherB g (fedK (Nd.kind n) (Nd.dep n)) (getE tI (Nd.ins n) i).1 = false) (fun j => (Nd.ins n).length - j) 0 ⟨Nat.zero_le _, fun i hi => absurd hi (Nat.not_lt_zero _)⟩ ?_ ?_
    · conv => whnf
      refine ⟨rfl, leaf_i ?_⟩
      repeat' ((with_reducible refine And.intro ?_ ?_) <;> (try (conv => whnf)))
      all_goals (try (first | with_reducible rfl | exact True.intro | rfl | exact id | exact fun h => h | exact fun _ => rfl))
    · rintro j ⟨hj, hw⟩
      dsimp only at hj hw ⊢
      have hin : decide ((j : Int) < ((Nd.ins n).length : Int)) = true → 0 ≤ (getE tI (Nd.ins n) j).1 ∧ (getE tI (Nd.ins n) j).1 < (g.length : Int) := fun h => hp2 _ (getE_mem _ (lt_t h))
      conv => whnf
      repeat' ((first
        | with_reducible refine ⟨fun h => h, ?_⟩
        | with_reducible refine ⟨pk1, ?_⟩
        | with_reducible refine ⟨pk2, ?_⟩
        | with_reducible refine ⟨pk3, ?_⟩
        | with_reducible refine ⟨pk4, ?_⟩
        | with_reducible refine ⟨pk5, ?_⟩
        | with_reducible refine ⟨pk6, ?_⟩
        | with_reducible refine ⟨trivial, ?_⟩
        | with_reducible refine ⟨fun _ => trivial, ?_⟩
        | with_reducible refine ⟨rfl, ?_⟩
        | with_reducible refine every_i (fun hd => ?_)
        | with_reducible refine everyN_i (fun k hk => ?_)
        | with_reducible refine everyD_i (fun d hd => ?_)
        | with_reducible refine fork_t (by assumption) ?_
        | with_reducible refine fork_f (by assumption) ?_
        | refine fork_t rfl ?_
        | refine fork_f rfl ?_
        | with_reducible refine fork_i (fun h => ?_) (fun h => ?_)
        | with_reducible refine both_i ?_ ?_
        | ((with_reducible refine alike_i ?_); exact ⟨rfl, rfl, rfl⟩)
        | ((with_reducible refine fin_i ?_); (conv => whnf); refine ⟨rfl, ?_⟩)
        | refine ⟨hin (by assumption), ?_⟩
        | refine ⟨of_decide_eq_true rfl, ?_⟩
        | refine ⟨fun _ => of_decide_eq_true rfl, ?_⟩
        | ((with_reducible refine ⟨?_, ?_⟩); (focus (intros; simp_all; done)))
        | ((with_reducible refine ⟨?_, ?_⟩); (focus (intros; omega)))) <;> (try (conv => whnf)))
      · rename_i hj'
        have hj' : j < (Nd.ins n).length := lt_t hj'
        have hwr : otherB g (fedK (Nd.kind n) (Nd.dep n)) (getE tI (Nd.ins n) j).1 = true := other_t hfd h
        have hno : depthB g n = false := by rw [depthB_in hin0, hasP_at _ hj' hwr]; simp
        all_goals ((with_reducible refine leaf_i ?_); (conv => whnf))
        repeat' ((with_reducible refine And.intro ?_ ?_) <;> (try (conv => whnf)))
        all_goals (try (first | with_reducible rfl | exact True.intro | rfl | exact id | exact fun h => h | exact fun _ => rfl))
        all_goals exact hno.symm
      · rename_i hj'
        have hj' : j < (Nd.ins n).length := lt_t hj'
        have hwr : otherB g (fedK (Nd.kind n) (Nd.dep n)) (getE tI (Nd.ins n) j).1 = false := other_f hfd h
        refine next_i (j + 1) ⟨hj', fun i hi => ?_⟩ (by omega) rfl rfl ?_
        · by_cases e : i = j
          · subst e; exact hwr
          · exact hw i (by omega)
        · conv => whnf
          refine ⟨rfl, leaf_i ?_⟩
          repeat' ((with_reducible refine And.intro ?_ ?_) <;> (try (conv => whnf)))
          all_goals (try (first | with_reducible rfl | exact True.intro | rfl | exact id | exact fun h => h | exact fun _ => rfl))
          all_goals (try (first | rfl | exact wrapS (by omega)))
      · have hj' : (Nd.ins n).length ≤ j := lt_f h
        have hall : hasP (otherB g (fedK (Nd.kind n) (Nd.dep n))) (Nd.ins n) = false := hasP_no _ fun i hi => hw i (by omega)
        have hyes : depthB g n = true := by rw [depthB_in hin0, hall]; rfl
        all_goals ((with_reducible refine leaf_i ?_); (conv => whnf))
        repeat' ((with_reducible refine And.intro ?_ ?_) <;> (try (conv => whnf)))
        all_goals (try (first | with_reducible rfl | exact True.intro | rfl | exact id | exact fun h => h | exact fun _ => rfl))
        all_goals exact hyes.symm
end Go.Proofs.Ytbgcgokikekmoaa

/- Layer 10, the document: Node. -/
namespace Go.Proofs.Ytbgcgokikekmoaa
set_option maxRecDepth 100000
open Go Go.RowKit Go.Proofs.Ytbgcgokikekmoaa.Eng
def k_rnode : Sig := .arg (shR tN) fun g => .arg shI fun i => .done { pre := g.length < 4611686018427387904 ∧ ∀ x : Nd, x ∈ g → (Nd.ins x).length < 4611686018427387904, res := I (nodeE g i) }
set_option maxHeartbeats 4000000 in
theorem c_rnode : FnOk Try.prog 13 k_rnode.con := by
  refine fnOkS mixed tys_ok (cs := [(27, k_rnumbers.con), (28, k_rports.con), (29, k_rdepth.con)]) ⟨c_rnumbers, c_rports, c_rdepth, trivial⟩ Try.func13 rfl (by kernel_rfl) Try.ntmps13 _ (h := ?_)
  intro g i
  refine ⟨rfl, fun hp => ?_⟩
  obtain ⟨hp1, hp2⟩ := hp
  by_cases h1 : i < 0
  · have e1 : decide (i < 0) = true := by simp [h1]
    conv => whnf
    repeat' ((first
      | with_reducible refine ⟨fun h => h, ?_⟩
      | with_reducible refine ⟨pk1, ?_⟩
      | with_reducible refine ⟨pk2, ?_⟩
      | with_reducible refine ⟨pk3, ?_⟩
      | with_reducible refine ⟨pk4, ?_⟩
      | with_reducible refine ⟨pk5, ?_⟩
      | with_reducible refine ⟨pk6, ?_⟩
      | with_reducible refine ⟨trivial, ?_⟩
      | with_reducible refine ⟨fun _ => trivial, ?_⟩
      | with_reducible refine ⟨rfl, ?_⟩
      | with_reducible refine every_i (fun hd => ?_)
      | with_reducible refine everyN_i (fun k hk => ?_)
      | with_reducible refine everyD_i (fun d hd => ?_)
      | with_reducible refine fork_t (by assumption) ?_
      | with_reducible refine fork_f (by assumption) ?_
      | refine fork_t rfl ?_
      | refine fork_f rfl ?_
      | with_reducible refine fork_i (fun h => ?_) (fun h => ?_)
      | with_reducible refine both_i ?_ ?_
      | ((with_reducible refine alike_i ?_); exact ⟨rfl, rfl, rfl⟩)
      | ((with_reducible refine fin_i ?_); (conv => whnf); refine ⟨rfl, ?_⟩)
      | refine ⟨of_decide_eq_true rfl, ?_⟩
      | refine ⟨fun _ => of_decide_eq_true rfl, ?_⟩
      | ((with_reducible refine ⟨?_, ?_⟩); (focus (intros; simp_all; done)))
      | ((with_reducible refine ⟨?_, ?_⟩); (focus (intros; omega)))) <;> (try (conv => whnf)))
    all_goals ((with_reducible refine leaf_i ?_); (conv => whnf))
    repeat' ((with_reducible refine And.intro ?_ ?_) <;> (try (conv => whnf)))
    all_goals (try (first | with_reducible rfl | exact True.intro | rfl | exact id | exact fun h => h | exact fun _ => rfl))
    all_goals (first | rfl | (simp_all [nodeE]; done) | trace_state)
  · by_cases h2 : i ≥ (g.length : Int)
    · conv => whnf
      repeat' ((first
        | with_reducible refine ⟨fun h => h, ?_⟩
        | with_reducible refine ⟨pk1, ?_⟩
        | with_reducible refine ⟨pk2, ?_⟩
        | with_reducible refine ⟨pk3, ?_⟩
        | with_reducible refine ⟨pk4, ?_⟩
        | with_reducible refine ⟨pk5, ?_⟩
        | with_reducible refine ⟨pk6, ?_⟩
        | with_reducible refine ⟨trivial, ?_⟩
        | with_reducible refine ⟨fun _ => trivial, ?_⟩
        | with_reducible refine ⟨rfl, ?_⟩
        | with_reducible refine every_i (fun hd => ?_)
        | with_reducible refine everyN_i (fun k hk => ?_)
        | with_reducible refine everyD_i (fun d hd => ?_)
        | with_reducible refine fork_t (by assumption) ?_
        | with_reducible refine fork_f (by assumption) ?_
        | refine fork_t rfl ?_
        | refine fork_f rfl ?_
        | with_reducible refine fork_i (fun h => ?_) (fun h => ?_)
        | with_reducible refine both_i ?_ ?_
        | ((with_reducible refine alike_i ?_); exact ⟨rfl, rfl, rfl⟩)
        | ((with_reducible refine fin_i ?_); (conv => whnf); refine ⟨rfl, ?_⟩)
        | refine ⟨of_decide_eq_true rfl, ?_⟩
        | refine ⟨fun _ => of_decide_eq_true rfl, ?_⟩
        | ((with_reducible refine ⟨?_, ?_⟩); (focus (intros; simp_all; done)))
        | ((with_reducible refine ⟨?_, ?_⟩); (focus (intros; omega)))) <;> (try (conv => whnf)))
      all_goals ((with_reducible refine leaf_i ?_); (conv => whnf))
      repeat' ((with_reducible refine And.intro ?_ ?_) <;> (try (conv => whnf)))
      all_goals (try (first | with_reducible rfl | exact True.intro | rfl | exact id | exact fun h => h | exact fun _ => rfl))
      all_goals (first | rfl | (simp_all [nodeE]; done) | trace_state)
    · have hin : 0 ≤ i ∧ i < (g.length : Int) := by omega
      have hl : (Nd.ins (nd g i)).length < 4611686018427387904 := hp2 _ (getE_mem g (by omega))
      conv => whnf
      repeat' ((first
        | with_reducible refine ⟨fun h => h, ?_⟩
        | with_reducible refine ⟨pk1, ?_⟩
        | with_reducible refine ⟨pk2, ?_⟩
        | with_reducible refine ⟨pk3, ?_⟩
        | with_reducible refine ⟨pk4, ?_⟩
        | with_reducible refine ⟨pk5, ?_⟩
        | with_reducible refine ⟨pk6, ?_⟩
        | with_reducible refine ⟨trivial, ?_⟩
        | with_reducible refine ⟨fun _ => trivial, ?_⟩
        | with_reducible refine ⟨rfl, ?_⟩
        | with_reducible refine every_i (fun hd => ?_)
        | with_reducible refine everyN_i (fun k hk => ?_)
        | with_reducible refine everyD_i (fun d hd => ?_)
        | with_reducible refine fork_t (by assumption) ?_
        | with_reducible refine fork_f (by assumption) ?_
        | refine fork_t rfl ?_
        | refine fork_f rfl ?_
        | with_reducible refine fork_i (fun h => ?_) (fun h => ?_)
        | with_reducible refine both_i ?_ ?_
        | ((with_reducible refine alike_i ?_); exact ⟨rfl, rfl, rfl⟩)
        | ((with_reducible refine fin_i ?_); (conv => whnf); refine ⟨rfl, ?_⟩)
        | refine ⟨hin, ?_⟩
        | refine ⟨hl, ?_⟩
        | refine ⟨⟨hl, portsB_in (by simp_all [nd])⟩, ?_⟩
        | refine ⟨of_decide_eq_true rfl, ?_⟩
        | refine ⟨fun _ => of_decide_eq_true rfl, ?_⟩
        | ((with_reducible refine ⟨?_, ?_⟩); (focus (intros; simp_all; done)))
        | ((with_reducible refine ⟨?_, ?_⟩); (focus (intros; omega)))) <;> (try (conv => whnf)))
      all_goals ((with_reducible refine leaf_i ?_); (conv => whnf))
      repeat' ((with_reducible refine And.intro ?_ ?_) <;> (try (conv => whnf)))
      all_goals (try (first | with_reducible rfl | exact True.intro | rfl | exact id | exact fun h => h | exact fun _ => rfl))
      all_goals (first | rfl | (simp_all [nodeE, nd]; done) | trace_state)
end Go.Proofs.Ytbgcgokikekmoaa

/- The document's functions of layer 9: may, To, Same. -/
namespace Go.Proofs.Ytbgcgokikekmoaa
open Go Go.RowKit Go.Proofs.Ytbgcgokikekmoaa.Eng
def fitG (g : List Nd) : Prop := g.length < 4611686018427387904 ∧ ∀ x : Nd, x ∈ g → (Nd.ins x).length < 4611686018427387904
def k_rto : Sig := .arg (shR tN) fun g => .arg shI fun i => .done { pre := (toG g i).length ≤ 1000000000 ∧ fitG g, res := .rl true tP (toG g i) }
set_option maxHeartbeats 4000000 in
theorem c_rto : FnOk Try.prog 50 k_rto.con := by
  refine fnOkS mixed tys_ok (cs := []) trivial Try.func50 rfl (by kernel_rfl) Try.ntmps50 _ (h := ?_)
  intro g i
  refine ⟨rfl, fun hp => ?_⟩
  obtain ⟨hp1, hp2, hp3⟩ := hp
  conv => whnf
  repeat' ((first
    | with_reducible refine ⟨fun h => h, ?_⟩
    | with_reducible refine ⟨pk1, ?_⟩
    | with_reducible refine ⟨pk2, ?_⟩
    | with_reducible refine ⟨pk3, ?_⟩
    | with_reducible refine ⟨pk4, ?_⟩
    | with_reducible refine ⟨pk5, ?_⟩
    | with_reducible refine ⟨pk6, ?_⟩
    | with_reducible refine ⟨trivial, ?_⟩
    | with_reducible refine ⟨fun _ => trivial, ?_⟩
    | with_reducible refine ⟨rfl, ?_⟩
    | with_reducible refine every_i (fun hd => ?_)
    | with_reducible refine everyN_i (fun k hk => ?_)
    | with_reducible refine everyD_i (fun d hd => ?_)
    | with_reducible refine fork_t (by assumption) ?_
    | with_reducible refine fork_f (by assumption) ?_
    | refine fork_t rfl ?_
    | refine fork_f rfl ?_
    | with_reducible refine fork_i (fun h => ?_) (fun h => ?_)
    | with_reducible refine both_i ?_ ?_
    | ((with_reducible refine alike_i ?_); exact ⟨rfl, rfl, rfl⟩)
    | ((with_reducible refine fin_i ?_); (conv => whnf); refine ⟨rfl, ?_⟩)
    | refine ⟨of_decide_eq_true rfl, ?_⟩
    | refine ⟨fun _ => of_decide_eq_true rfl, ?_⟩
    | ((with_reducible refine ⟨?_, ?_⟩); (focus (intros; simp_all; done)))
    | ((with_reducible refine ⟨?_, ?_⟩); (focus (intros; omega)))) <;> (try (conv => whnf)))
  refine looped (σ := Nat × List (El tP)) (fun x => [(6, I x.1), (5, .ow 0 2 x.2.length)]) (fun x => [.row true tP 65 x.2]) (fun x => x.1 ≤ g.length ∧ x.2 ++ toOut i x.1 (g.drop x.1) = toG g i) (fun x => g.length - x.1) (0, []) ⟨Nat.zero_le _, rfl⟩ ?_ ?_
  · conv => whnf
    refine ⟨rfl, leaf_i ?_⟩
    repeat' ((with_reducible refine And.intro ?_ ?_) <;> (try (conv => whnf)))
    all_goals (try (first | with_reducible rfl | exact True.intro | rfl | exact id | exact fun h => h | exact fun _ => rfl))
  · rintro ⟨j, l⟩ ⟨hj, hl⟩
    dsimp only at hj hl
    conv => whnf
    repeat' ((first
      | with_reducible refine ⟨fun h => h, ?_⟩
      | with_reducible refine ⟨pk1, ?_⟩
      | with_reducible refine ⟨pk2, ?_⟩
      | with_reducible refine ⟨pk3, ?_⟩
      | with_reducible refine ⟨pk4, ?_⟩
      | with_reducible refine ⟨pk5, ?_⟩
      | with_reducible refine ⟨pk6, ?_⟩
      | with_reducible refine ⟨trivial, ?_⟩
      | with_reducible refine ⟨fun _ => trivial, ?_⟩
      | with_reducible refine ⟨rfl, ?_⟩
      | with_reducible refine every_i (fun hd => ?_)
      | with_reducible refine everyN_i (fun k hk => ?_)
      | with_reducible refine everyD_i (fun d hd => ?_)
      | with_reducible refine fork_t (by assumption) ?_
      | with_reducible refine fork_f (by assumption) ?_
      | refine fork_t rfl ?_
      | refine fork_f rfl ?_
      | with_reducible refine fork_i (fun h => ?_) (fun h => ?_)
      | with_reducible refine both_i ?_ ?_
      | ((with_reducible refine alike_i ?_); exact ⟨rfl, rfl, rfl⟩)
      | ((with_reducible refine fin_i ?_); (conv => whnf); refine ⟨rfl, ?_⟩)
      | refine ⟨of_decide_eq_true rfl, ?_⟩
      | refine ⟨fun _ => of_decide_eq_true rfl, ?_⟩
      | ((with_reducible refine ⟨?_, ?_⟩); (focus (intros; simp_all; done)))
      | ((with_reducible refine ⟨?_, ?_⟩); (focus (intros; omega)))) <;> (try (conv => whnf)))
    · have hj' : j < g.length := lt_t (by assumption)
      have hm := getE_mem g hj'
      have hn := hp3 _ hm
      rw [drop_get g hj'] at hl
      refine looped (σ := Nat × List (El tP)) (fun x => [(7, I x.1), (5, .ow 0 2 x.2.length)]) (fun x => [.row true tP 65 x.2]) (fun x => x.1 ≤ (Nd.ins (getE tN g j)).length ∧ x.2 ++ (toIn j i x.1 ((Nd.ins (getE tN g j)).drop x.1) ++ toOut i (j + 1) (g.drop (j + 1))) = toG g i) (fun x => (Nd.ins (getE tN g j)).length - x.1) (0, l) ⟨Nat.zero_le _, hl⟩ ?_ ?_
      · conv => whnf
        refine ⟨rfl, leaf_i ?_⟩
        repeat' ((with_reducible refine And.intro ?_ ?_) <;> (try (conv => whnf)))
        all_goals (try (first | with_reducible rfl | exact True.intro | rfl | exact id | exact fun h => h | exact fun _ => rfl))
      · rintro ⟨k, l⟩ ⟨hk, hl⟩
        dsimp only at hk hl
        conv => whnf
        repeat' ((first
          | with_reducible refine ⟨fun h => h, ?_⟩
          | with_reducible refine ⟨pk1, ?_⟩
          | with_reducible refine ⟨pk2, ?_⟩
          | with_reducible refine ⟨pk3, ?_⟩
          | with_reducible refine ⟨pk4, ?_⟩
          | with_reducible refine ⟨pk5, ?_⟩
          | with_reducible refine ⟨pk6, ?_⟩
          | with_reducible refine ⟨trivial, ?_⟩
          | with_reducible refine ⟨fun _ => trivial, ?_⟩
          | with_reducible refine ⟨rfl, ?_⟩
          | with_reducible refine every_i (fun hd => ?_)
          | with_reducible refine everyN_i (fun k hk => ?_)
          | with_reducible refine everyD_i (fun d hd => ?_)
          | with_reducible refine fork_t (by assumption) ?_
          | with_reducible refine fork_f (by assumption) ?_
          | refine fork_t rfl ?_
          | refine fork_f rfl ?_
          | with_reducible refine fork_i (fun h => ?_) (fun h => ?_)
          | with_reducible refine both_i ?_ ?_
          | ((with_reducible refine alike_i ?_); exact ⟨rfl, rfl, rfl⟩)
          | ((with_reducible refine fin_i ?_); (conv => whnf); refine ⟨rfl, ?_⟩)
          | refine ⟨of_decide_eq_true rfl, ?_⟩
          | refine ⟨fun _ => of_decide_eq_true rfl, ?_⟩
          | ((with_reducible refine ⟨?_, ?_⟩); (focus (intros; simp_all; done)))
          | ((with_reducible refine ⟨?_, ?_⟩); (focus (intros; omega)))) <;> (try (conv => whnf)))
        · have hk' : k < (Nd.ins (getE tN g j)).length := lt_t (by assumption)
          have hx : (getE tI (Nd.ins (getE tN g j)) k).1 = i := beq_t (by assumption)
          rw [drop_get _ hk', toIn, if_pos hx] at hl
          refine ⟨?_, ?_⟩
          · have := congrArg List.length hl
            simp only [List.length_append, List.length_cons, List.length_nil] at this ⊢
            omega
          (conv => whnf)
          conv => whnf
          repeat' ((first
            | with_reducible refine ⟨fun h => h, ?_⟩
            | with_reducible refine ⟨pk1, ?_⟩
            | with_reducible refine ⟨pk2, ?_⟩
            | with_reducible refine ⟨pk3, ?_⟩
            | with_reducible refine ⟨pk4, ?_⟩
            | with_reducible refine ⟨pk5, ?_⟩
            | with_reducible refine ⟨pk6, ?_⟩
            | with_reducible refine ⟨trivial, ?_⟩
            | with_reducible refine ⟨fun _ => trivial, ?_⟩
            | with_reducible refine ⟨rfl, ?_⟩
            | with_reducible refine every_i (fun hd => ?_)
            | with_reducible refine everyN_i (fun k hk => ?_)
            | with_reducible refine everyD_i (fun d hd => ?_)
            | with_reducible refine fork_t (by assumption) ?_
            | with_reducible refine fork_f (by assumption) ?_
            | refine fork_t rfl ?_
            | refine fork_f rfl ?_
            | with_reducible refine fork_i (fun h => ?_) (fun h => ?_)
            | with_reducible refine both_i ?_ ?_
            | ((with_reducible refine alike_i ?_); exact ⟨rfl, rfl, rfl⟩)
            | ((with_reducible refine fin_i ?_); (conv => whnf); refine ⟨rfl, ?_⟩)
            | refine ⟨of_decide_eq_true rfl, ?_⟩
            | refine ⟨fun _ => of_decide_eq_true rfl, ?_⟩
            | ((with_reducible refine ⟨?_, ?_⟩); (focus (intros; simp_all; done)))
            | ((with_reducible refine ⟨?_, ?_⟩); (focus (intros; omega)))) <;> (try (conv => whnf)))
          refine next_i (k + 1, l ++ [((j : Int), (k : Int), ())]) ⟨hk', by simpa using hl⟩ (by dsimp only; omega) rfl rfl ?_
          conv => whnf
          refine ⟨rfl, leaf_i ?_⟩
          repeat' ((with_reducible refine And.intro ?_ ?_) <;> (try (conv => whnf)))
          all_goals (try (first | with_reducible rfl | exact True.intro | rfl | exact id | exact fun h => h | exact fun _ => rfl))
          all_goals (try (first | rfl | exact wrapS (by dsimp only; omega)))
        · have hk' : k < (Nd.ins (getE tN g j)).length := lt_t (by assumption)
          have hx : ¬ (getE tI (Nd.ins (getE tN g j)) k).1 = i := beq_f (by assumption)
          rw [drop_get _ hk', toIn, if_neg hx] at hl
          refine next_i (k + 1, l) ⟨hk', by simpa using hl⟩ (by dsimp only; omega) rfl rfl ?_
          conv => whnf
          refine ⟨rfl, leaf_i ?_⟩
          repeat' ((with_reducible refine And.intro ?_ ?_) <;> (try (conv => whnf)))
          all_goals (try (first | with_reducible rfl | exact True.intro | rfl | exact id | exact fun h => h | exact fun _ => rfl))
          all_goals (try (first | rfl | exact wrapS (by dsimp only; omega)))
        · have hk' : (Nd.ins (getE tN g j)).length ≤ k := lt_f (by assumption)
          rw [List.drop_eq_nil_of_le hk', toIn, List.nil_append] at hl
          refine next_i (j + 1, l) ⟨hj', hl⟩ (by dsimp only; omega) rfl rfl ?_
          conv => whnf
          refine ⟨rfl, leaf_i ?_⟩
          repeat' ((with_reducible refine And.intro ?_ ?_) <;> (try (conv => whnf)))
          all_goals (try (first | with_reducible rfl | exact True.intro | rfl | exact id | exact fun h => h | exact fun _ => rfl))
          all_goals (try (first | rfl | exact wrapS (by dsimp only; omega)))
    · have hj' : g.length ≤ j := lt_f (by assumption)
      rw [List.drop_eq_nil_of_le hj', toOut, List.append_nil] at hl
      all_goals ((with_reducible refine leaf_i ?_); (conv => whnf))
      repeat' ((with_reducible refine And.intro ?_ ?_) <;> (try (conv => whnf)))
      all_goals (try (first | with_reducible rfl | exact True.intro | rfl | exact id | exact fun h => h | exact fun _ => rfl))
      all_goals exact hl
def k_rsame : Sig := .arg (shR tN) fun a => .arg (shR tN) fun b => .done { pre := fitG a, res := B (eqG a b) }
set_option maxRecDepth 100000 in
set_option maxHeartbeats 4000000 in
theorem c_rsame : FnOk Try.prog 14 k_rsame.con := by
  refine fnOkS mixed tys_ok (cs := []) trivial Try.func14 rfl (by kernel_rfl) Try.ntmps14 _ (h := ?_)
  intro l m
  refine ⟨rfl, fun hp => ?_⟩
  obtain ⟨hp1, hp2⟩ := hp
  conv => whnf
  repeat' ((first
    | with_reducible refine ⟨fun h => h, ?_⟩
    | with_reducible refine ⟨pk1, ?_⟩
    | with_reducible refine ⟨pk2, ?_⟩
    | with_reducible refine ⟨pk3, ?_⟩
    | with_reducible refine ⟨pk4, ?_⟩
    | with_reducible refine ⟨pk5, ?_⟩
    | with_reducible refine ⟨pk6, ?_⟩
    | with_reducible refine ⟨trivial, ?_⟩
    | with_reducible refine ⟨fun _ => trivial, ?_⟩
    | with_reducible refine ⟨rfl, ?_⟩
    | with_reducible refine every_i (fun hd => ?_)
    | with_reducible refine everyN_i (fun k hk => ?_)
    | with_reducible refine everyD_i (fun d hd => ?_)
    | with_reducible refine fork_t (by assumption) ?_
    | with_reducible refine fork_f (by assumption) ?_
    | refine fork_t rfl ?_
    | refine fork_f rfl ?_
    | with_reducible refine fork_i (fun h => ?_) (fun h => ?_)
    | with_reducible refine both_i ?_ ?_
    | ((with_reducible refine alike_i ?_); exact ⟨rfl, rfl, rfl⟩)
    | ((with_reducible refine fin_i ?_); (conv => whnf); refine ⟨rfl, ?_⟩)
    | refine ⟨of_decide_eq_true rfl, ?_⟩
    | refine ⟨fun _ => of_decide_eq_true rfl, ?_⟩
    | ((with_reducible refine ⟨?_, ?_⟩); (focus (intros; simp_all; done)))
    | ((with_reducible refine ⟨?_, ?_⟩); (focus (intros; omega)))) <;> (try (conv => whnf)))
  · have hn : l.length ≠ m.length := bnl_t h
    all_goals ((with_reducible refine leaf_i ?_); (conv => whnf))
    repeat' ((with_reducible refine And.intro ?_ ?_) <;> (try (conv => whnf)))
    all_goals (try (first | with_reducible rfl | exact True.intro | rfl | exact id | exact fun h => h | exact fun _ => rfl))
    all_goals (rw [eqG_len hn])
  · have hn : l.length = m.length := bnl_f h
    refine looped (σ := Nat) (fun j => [(5, I j)]) (fun _ => []) (fun j => j ≤ l.length ∧ eqG (l.drop j) (m.drop j) = eqG l m) (fun j => l.length - j) 0 ⟨Nat.zero_le _, rfl⟩ ?_ ?_
    · conv => whnf
      refine ⟨rfl, leaf_i ?_⟩
      repeat' ((with_reducible refine And.intro ?_ ?_) <;> (try (conv => whnf)))
      all_goals (try (first | with_reducible rfl | exact True.intro | rfl | exact id | exact fun h => h | exact fun _ => rfl))
    · rintro j ⟨hj, hl⟩
      conv => whnf
      repeat' ((first
        | with_reducible refine ⟨fun h => h, ?_⟩
        | with_reducible refine ⟨pk1, ?_⟩
        | with_reducible refine ⟨pk2, ?_⟩
        | with_reducible refine ⟨pk3, ?_⟩
        | with_reducible refine ⟨pk4, ?_⟩
        | with_reducible refine ⟨pk5, ?_⟩
        | with_reducible refine ⟨pk6, ?_⟩
        | with_reducible refine ⟨trivial, ?_⟩
        | with_reducible refine ⟨fun _ => trivial, ?_⟩
        | with_reducible refine ⟨rfl, ?_⟩
        | with_reducible refine every_i (fun hd => ?_)
        | with_reducible refine everyN_i (fun k hk => ?_)
        | with_reducible refine everyD_i (fun d hd => ?_)
        | with_reducible refine fork_t (by assumption) ?_
        | with_reducible refine fork_f (by assumption) ?_
        | refine fork_t rfl ?_
        | refine fork_f rfl ?_
        | with_reducible refine fork_i (fun h => ?_) (fun h => ?_)
        | with_reducible refine both_i ?_ ?_
        | ((with_reducible refine alike_i ?_); exact ⟨rfl, rfl, rfl⟩)
        | ((with_reducible refine fin_i ?_); (conv => whnf); refine ⟨rfl, ?_⟩)
        | refine ⟨of_decide_eq_true rfl, ?_⟩
        | refine ⟨fun _ => of_decide_eq_true rfl, ?_⟩
        | ((with_reducible refine ⟨?_, ?_⟩); (focus (intros; simp_all; done)))
        | ((with_reducible refine ⟨?_, ?_⟩); (focus (intros; omega)))) <;> (try (conv => whnf)))
      · have hj' : j < l.length := lt_t (by assumption)
        have hx := neH_t (x := getE tN l j) (y := getE tN m j) h
        rw [eqG_step hj' (by omega), hx] at hl
        all_goals ((with_reducible refine leaf_i ?_); (conv => whnf))
        repeat' ((with_reducible refine And.intro ?_ ?_) <;> (try (conv => whnf)))
        all_goals (try (first | with_reducible rfl | exact True.intro | rfl | exact id | exact fun h => h | exact fun _ => rfl))
        all_goals (rw [← hl]; rfl)
      · have hj' : j < l.length := lt_t (by assumption)
        obtain ⟨hx1, hx2⟩ := neH_f (x := getE tN l j) (y := getE tN m j) h
        rw [eqG_step hj' (by omega), hx1] at hl
        have hx3 := hp2 _ (getE_mem l hj')
        refine kept [6, 7] ?_
        (conv => whnf)
        refine looped (σ := Nat) (fun k => [(8, I k)]) (fun _ => [.cells (ndC false (getE tN l j)), .cells (ndC false (getE tN m j))]) (fun k => k ≤ (Nd.ins (getE tN l j)).length ∧ eqI ((Nd.ins (getE tN l j)).drop k) ((Nd.ins (getE tN m j)).drop k) = eqI (Nd.ins (getE tN l j)) (Nd.ins (getE tN m j))) (fun k => (Nd.ins (getE tN l j)).length - k) 0 ⟨Nat.zero_le _, rfl⟩ ?_ ?_
        · conv => whnf
          refine ⟨rfl, leaf_i ?_⟩
          repeat' ((with_reducible refine And.intro ?_ ?_) <;> (try (conv => whnf)))
          all_goals (try (first | with_reducible rfl | exact True.intro | rfl | exact id | exact fun h => h | exact fun _ => rfl))
        · rintro k ⟨hk, hi⟩
          conv => whnf
          repeat' ((first
            | with_reducible refine ⟨fun h => h, ?_⟩
            | with_reducible refine ⟨pk1, ?_⟩
            | with_reducible refine ⟨pk2, ?_⟩
            | with_reducible refine ⟨pk3, ?_⟩
            | with_reducible refine ⟨pk4, ?_⟩
            | with_reducible refine ⟨pk5, ?_⟩
            | with_reducible refine ⟨pk6, ?_⟩
            | with_reducible refine ⟨trivial, ?_⟩
            | with_reducible refine ⟨fun _ => trivial, ?_⟩
            | with_reducible refine ⟨rfl, ?_⟩
            | with_reducible refine every_i (fun hd => ?_)
            | with_reducible refine everyN_i (fun k hk => ?_)
            | with_reducible refine everyD_i (fun d hd => ?_)
            | with_reducible refine fork_t (by assumption) ?_
            | with_reducible refine fork_f (by assumption) ?_
            | refine fork_t rfl ?_
            | refine fork_f rfl ?_
            | with_reducible refine fork_i (fun h => ?_) (fun h => ?_)
            | with_reducible refine both_i ?_ ?_
            | ((with_reducible refine alike_i ?_); exact ⟨rfl, rfl, rfl⟩)
            | ((with_reducible refine fin_i ?_); (conv => whnf); refine ⟨rfl, ?_⟩)
            | refine ⟨of_decide_eq_true rfl, ?_⟩
            | refine ⟨fun _ => of_decide_eq_true rfl, ?_⟩
            | ((with_reducible refine ⟨?_, ?_⟩); (focus (intros; simp_all; done)))
            | ((with_reducible refine ⟨?_, ?_⟩); (focus (intros; omega)))) <;> (try (conv => whnf)))
          · have hk' : k < (Nd.ins (getE tN l j)).length := lt_t (by assumption)
            have hx : (getE tI (Nd.ins (getE tN l j)) k).1 ≠ (getE tI (Nd.ins (getE tN m j)) k).1 := bne_t (by assumption)
            rw [eqI_step hk' (by omega), beq_eq_false_iff_ne.2 hx] at hi
            rw [← hi] at hl
            all_goals ((with_reducible refine leaf_i ?_); (conv => whnf))
            repeat' ((with_reducible refine And.intro ?_ ?_) <;> (try (conv => whnf)))
            all_goals (try (first | with_reducible rfl | exact True.intro | rfl | exact id | exact fun h => h | exact fun _ => rfl))
            all_goals (rw [← hl]; rfl)
          · have hk' : k < (Nd.ins (getE tN l j)).length := lt_t (by assumption)
            have hx : (getE tI (Nd.ins (getE tN l j)) k).1 = (getE tI (Nd.ins (getE tN m j)) k).1 := bne_f (by assumption)
            rw [eqI_step hk' (by omega), beq_iff_eq.2 hx, Bool.true_and] at hi
            refine next_i (k + 1) ⟨hk', hi⟩ (by omega) rfl rfl ?_
            conv => whnf
            refine ⟨rfl, leaf_i ?_⟩
            repeat' ((with_reducible refine And.intro ?_ ?_) <;> (try (conv => whnf)))
            all_goals (try (first | with_reducible rfl | exact True.intro | rfl | exact id | exact fun h => h | exact fun _ => rfl))
            all_goals exact wrapS (Nat.lt_trans hk' hx3)
          · have hk' : (Nd.ins (getE tN l j)).length ≤ k := lt_f (by assumption)
            rw [eqI_end hk' (by omega)] at hi
            rw [← hi, Bool.true_and] at hl
            refine next_i (j + 1) ⟨hj', hl⟩ (by omega) rfl rfl ?_
            conv => whnf
            refine ⟨rfl, leaf_i ?_⟩
            repeat' ((with_reducible refine And.intro ?_ ?_) <;> (try (conv => whnf)))
            all_goals (try (first | with_reducible rfl | exact True.intro | rfl | exact id | exact fun h => h | exact fun _ => rfl))
            all_goals exact wrapS (Nat.lt_trans hj' hp1)
      · have hj' : l.length ≤ j := lt_f (by assumption)
        rw [eqG_end hj' (by omega)] at hl
        all_goals ((with_reducible refine leaf_i ?_); (conv => whnf))
        repeat' ((with_reducible refine And.intro ?_ ?_) <;> (try (conv => whnf)))
        all_goals (try (first | with_reducible rfl | exact True.intro | rfl | exact id | exact fun h => h | exact fun _ => rfl))
        all_goals (rw [← hl])
def k_rmay : Sig := .arg (shR tN) fun g => .done { pre := fitG g, res := B (mayG g) }
set_option maxRecDepth 100000 in
set_option maxHeartbeats 4000000 in
theorem c_rmay : FnOk Try.prog 48 k_rmay.con := by
  refine fnOkS mixed tys_ok (cs := []) trivial Try.func48 rfl (by kernel_rfl) Try.ntmps48 _ (h := ?_)
  intro g
  refine ⟨rfl, fun hp => ?_⟩
  obtain ⟨hp1, hp2⟩ := hp
  conv => whnf
  repeat' ((first
    | with_reducible refine ⟨fun h => h, ?_⟩
    | with_reducible refine ⟨pk1, ?_⟩
    | with_reducible refine ⟨pk2, ?_⟩
    | with_reducible refine ⟨pk3, ?_⟩
    | with_reducible refine ⟨pk4, ?_⟩
    | with_reducible refine ⟨pk5, ?_⟩
    | with_reducible refine ⟨pk6, ?_⟩
    | with_reducible refine ⟨trivial, ?_⟩
    | with_reducible refine ⟨fun _ => trivial, ?_⟩
    | with_reducible refine ⟨rfl, ?_⟩
    | with_reducible refine every_i (fun hd => ?_)
    | with_reducible refine everyN_i (fun k hk => ?_)
    | with_reducible refine everyD_i (fun d hd => ?_)
    | with_reducible refine fork_t (by assumption) ?_
    | with_reducible refine fork_f (by assumption) ?_
    | refine fork_t rfl ?_
    | refine fork_f rfl ?_
    | with_reducible refine fork_i (fun h => ?_) (fun h => ?_)
    | with_reducible refine both_i ?_ ?_
    | ((with_reducible refine alike_i ?_); exact ⟨rfl, rfl, rfl⟩)
    | ((with_reducible refine fin_i ?_); (conv => whnf); refine ⟨rfl, ?_⟩)
    | refine ⟨of_decide_eq_true rfl, ?_⟩
    | refine ⟨fun _ => of_decide_eq_true rfl, ?_⟩
    | ((with_reducible refine ⟨?_, ?_⟩); (focus (intros; simp_all; done)))
    | ((with_reducible refine ⟨?_, ?_⟩); (focus (intros; omega)))) <;> (try (conv => whnf)))
  refine looped (σ := Nat) (fun j => [(3, I j)]) (fun _ => []) (fun j => j ≤ g.length ∧ (g.drop j).all mayN = g.all mayN) (fun j => g.length - j) 0 ⟨Nat.zero_le _, rfl⟩ ?_ ?_
  · conv => whnf
    refine ⟨rfl, leaf_i ?_⟩
    repeat' ((with_reducible refine And.intro ?_ ?_) <;> (try (conv => whnf)))
    all_goals (try (first | with_reducible rfl | exact True.intro | rfl | exact id | exact fun h => h | exact fun _ => rfl))
  · rintro j ⟨hj, hl⟩
    conv => whnf
    repeat' ((first
      | with_reducible refine ⟨fun h => h, ?_⟩
      | with_reducible refine ⟨pk1, ?_⟩
      | with_reducible refine ⟨pk2, ?_⟩
      | with_reducible refine ⟨pk3, ?_⟩
      | with_reducible refine ⟨pk4, ?_⟩
      | with_reducible refine ⟨pk5, ?_⟩
      | with_reducible refine ⟨pk6, ?_⟩
      | with_reducible refine ⟨trivial, ?_⟩
      | with_reducible refine ⟨fun _ => trivial, ?_⟩
      | with_reducible refine ⟨rfl, ?_⟩
      | with_reducible refine every_i (fun hd => ?_)
      | with_reducible refine everyN_i (fun k hk => ?_)
      | with_reducible refine everyD_i (fun d hd => ?_)
      | with_reducible refine fork_t (by assumption) ?_
      | with_reducible refine fork_f (by assumption) ?_
      | refine fork_t rfl ?_
      | refine fork_f rfl ?_
      | with_reducible refine fork_i (fun h => ?_) (fun h => ?_)
      | with_reducible refine both_i ?_ ?_
      | ((with_reducible refine alike_i ?_); exact ⟨rfl, rfl, rfl⟩)
      | ((with_reducible refine fin_i ?_); (conv => whnf); refine ⟨rfl, ?_⟩)
      | refine ⟨of_decide_eq_true rfl, ?_⟩
      | refine ⟨fun _ => of_decide_eq_true rfl, ?_⟩
      | ((with_reducible refine ⟨?_, ?_⟩); (focus (intros; simp_all; done)))
      | ((with_reducible refine ⟨?_, ?_⟩); (focus (intros; omega)))) <;> (try (conv => whnf)))
    · have hj' : j < g.length := lt_t (by assumption)
      have hx := maH_t (n := getE tN g j) h
      rw [drop_get g hj', List.all_cons, hx, Bool.false_and] at hl
      all_goals ((with_reducible refine leaf_i ?_); (conv => whnf))
      repeat' ((with_reducible refine And.intro ?_ ?_) <;> (try (conv => whnf)))
      all_goals (try (first | with_reducible rfl | exact True.intro | rfl | exact id | exact fun h => h | exact fun _ => rfl))
      all_goals (unfold mayG; rw [← hl]; rfl)
    · have hj' : j < g.length := lt_t (by assumption)
      have hx := maH_f (n := getE tN g j) h
      rw [drop_get g hj', List.all_cons, hx] at hl
      have hx3 := hp2 _ (getE_mem g hj')
      refine looped (σ := Nat) (fun k => [(4, I k)]) (fun _ => []) (fun k => k ≤ (Nd.ins (getE tN g j)).length ∧ ((Nd.ins (getE tN g j)).drop k).any (fun x => wrongI x.1) = (Nd.ins (getE tN g j)).any fun x => wrongI x.1) (fun k => (Nd.ins (getE tN g j)).length - k) 0 ⟨Nat.zero_le _, rfl⟩ ?_ ?_
      · conv => whnf
        refine ⟨rfl, leaf_i ?_⟩
        repeat' ((with_reducible refine And.intro ?_ ?_) <;> (try (conv => whnf)))
        all_goals (try (first | with_reducible rfl | exact True.intro | rfl | exact id | exact fun h => h | exact fun _ => rfl))
      · rintro k ⟨hk, hi⟩
        conv => whnf
        repeat' ((first
          | with_reducible refine ⟨fun h => h, ?_⟩
          | with_reducible refine ⟨pk1, ?_⟩
          | with_reducible refine ⟨pk2, ?_⟩
          | with_reducible refine ⟨pk3, ?_⟩
          | with_reducible refine ⟨pk4, ?_⟩
          | with_reducible refine ⟨pk5, ?_⟩
          | with_reducible refine ⟨pk6, ?_⟩
          | with_reducible refine ⟨trivial, ?_⟩
          | with_reducible refine ⟨fun _ => trivial, ?_⟩
          | with_reducible refine ⟨rfl, ?_⟩
          | with_reducible refine every_i (fun hd => ?_)
          | with_reducible refine everyN_i (fun k hk => ?_)
          | with_reducible refine everyD_i (fun d hd => ?_)
          | with_reducible refine fork_t (by assumption) ?_
          | with_reducible refine fork_f (by assumption) ?_
          | refine fork_t rfl ?_
          | refine fork_f rfl ?_
          | with_reducible refine fork_i (fun h => ?_) (fun h => ?_)
          | with_reducible refine both_i ?_ ?_
          | ((with_reducible refine alike_i ?_); exact ⟨rfl, rfl, rfl⟩)
          | ((with_reducible refine fin_i ?_); (conv => whnf); refine ⟨rfl, ?_⟩)
          | refine ⟨of_decide_eq_true rfl, ?_⟩
          | refine ⟨fun _ => of_decide_eq_true rfl, ?_⟩
          | ((with_reducible refine ⟨?_, ?_⟩); (focus (intros; simp_all; done)))
          | ((with_reducible refine ⟨?_, ?_⟩); (focus (intros; omega)))) <;> (try (conv => whnf)))
        · have hk' : k < (Nd.ins (getE tN g j)).length := lt_t (by assumption)
          rw [wr_any hk' h hi] at hl
          all_goals ((with_reducible refine leaf_i ?_); (conv => whnf))
          repeat' ((with_reducible refine And.intro ?_ ?_) <;> (try (conv => whnf)))
          all_goals (try (first | with_reducible rfl | exact True.intro | rfl | exact id | exact fun h => h | exact fun _ => rfl))
          all_goals (unfold mayG; rw [← hl]; rfl)
        · have hk' : k < (Nd.ins (getE tN g j)).length := lt_t (by assumption)
          have hw : wrongI (getE tI (Nd.ins (getE tN g j)) k).1 = false := (wr_eq _).symm.trans h
          rw [drop_get _ hk', List.any_cons, hw, Bool.false_or] at hi
          refine next_i (k + 1) ⟨hk', hi⟩ (by omega) rfl rfl ?_
          conv => whnf
          refine ⟨rfl, leaf_i ?_⟩
          repeat' ((with_reducible refine And.intro ?_ ?_) <;> (try (conv => whnf)))
          all_goals (try (first | with_reducible rfl | exact True.intro | rfl | exact id | exact fun h => h | exact fun _ => rfl))
          all_goals exact wrapS (Nat.lt_trans hk' hx3)
        · have hk' : (Nd.ins (getE tN g j)).length ≤ k := lt_f (by assumption)
          rw [List.drop_eq_nil_of_le hk', List.any_nil] at hi
          rw [← hi, Bool.not_false, Bool.true_and] at hl
          refine next_i (j + 1) ⟨hj', hl⟩ (by omega) rfl rfl ?_
          conv => whnf
          refine ⟨rfl, leaf_i ?_⟩
          repeat' ((with_reducible refine And.intro ?_ ?_) <;> (try (conv => whnf)))
          all_goals (try (first | with_reducible rfl | exact True.intro | rfl | exact id | exact fun h => h | exact fun _ => rfl))
          all_goals exact wrapS (Nat.lt_trans hj' hp1)
    · have hj' : g.length ≤ j := lt_f (by assumption)
      rw [List.drop_eq_nil_of_le hj', List.all_nil] at hl
      all_goals ((with_reducible refine leaf_i ?_); (conv => whnf))
      repeat' ((with_reducible refine And.intro ?_ ?_) <;> (try (conv => whnf)))
      all_goals (try (first | with_reducible rfl | exact True.intro | rfl | exact id | exact fun h => h | exact fun _ => rfl))
      all_goals (unfold mayG; rw [← hl, Bool.true_and, Bool.cond_false_right])
end Go.Proofs.Ytbgcgokikekmoaa

/- Layer 10: a node's numbers. -/
namespace Go.Proofs.Ytbgcgokikekmoaa
set_option maxRecDepth 100000
open Go Go.RowKit Go.Proofs.Ytbgcgokikekmoaa.Eng
def k_plain : Sig := .arg (shT tN) fun n => .done { pre := True, res := B (plB n) }
def k_num1 : Sig := .arg (shT tN) fun n => .done { pre := True, res := B (n1B n) }
def k_num2 : Sig := .arg (shT tN) fun n => .done { pre := True, res := B (n2B n) }
def k_num3 : Sig := .arg (shT tN) fun n => .done { pre := True, res := B (n3B n) }
def k_num4 : Sig := .arg (shT tN) fun n => .done { pre := True, res := B (n4B n) }
def k_numbers : Sig := .arg (shT tN) fun n => .done { pre := True, res := B (numB n) }
set_option maxHeartbeats 4000000 in
theorem c_plain : FnOk Try.prog 39 k_plain.con := by
  refine fnOkS mixed tys_ok (cs := []) trivial Try.func39 rfl (by kernel_rfl) Try.ntmps39 _ (h := ?_)
  rintro n
  refine ⟨rfl, fun _ => ?_⟩
  conv => whnf
  repeat' ((first
    | with_reducible refine ⟨fun h => h, ?_⟩
    | with_reducible refine ⟨pk1, ?_⟩
    | with_reducible refine ⟨pk2, ?_⟩
    | with_reducible refine ⟨pk3, ?_⟩
    | with_reducible refine ⟨pk4, ?_⟩
    | with_reducible refine ⟨pk5, ?_⟩
    | with_reducible refine ⟨pk6, ?_⟩
    | with_reducible refine ⟨trivial, ?_⟩
    | with_reducible refine ⟨fun _ => trivial, ?_⟩
    | with_reducible refine ⟨rfl, ?_⟩
    | with_reducible refine every_i (fun hd => ?_)
    | with_reducible refine everyN_i (fun k hk => ?_)
    | with_reducible refine everyD_i (fun d hd => ?_)
    | with_reducible refine fork_t (by assumption) ?_
    | with_reducible refine fork_f (by assumption) ?_
    | refine fork_t rfl ?_
    | refine fork_f rfl ?_
    | with_reducible refine fork_i (fun h => ?_) (fun h => ?_)
    | with_reducible refine both_i ?_ ?_
    | ((with_reducible refine alike_i ?_); exact ⟨rfl, rfl, rfl⟩)
    | ((with_reducible refine fin_i ?_); (conv => whnf); refine ⟨rfl, ?_⟩)
    | refine ⟨of_decide_eq_true rfl, ?_⟩
    | refine ⟨fun _ => of_decide_eq_true rfl, ?_⟩
    | ((with_reducible refine ⟨?_, ?_⟩); (focus (intros; simp_all; done)))
    | ((with_reducible refine ⟨?_, ?_⟩); (focus (intros; omega)))) <;> (try (conv => whnf)))
  all_goals ((with_reducible refine leaf_i ?_); (conv => whnf))
  repeat' ((with_reducible refine And.intro ?_ ?_) <;> (try (conv => whnf)))
  all_goals (try (first | with_reducible rfl | exact True.intro | rfl | exact id | exact fun h => h | exact fun _ => rfl))
set_option maxHeartbeats 4000000 in
theorem c_num1 : FnOk Try.prog 35 k_num1.con := by
  refine fnOkS mixed tys_ok (cs := []) trivial Try.func35 rfl (by kernel_rfl) Try.ntmps35 _ (h := ?_)
  rintro n
  refine ⟨rfl, fun _ => ?_⟩
  conv => whnf
  repeat' ((first
    | with_reducible refine ⟨fun h => h, ?_⟩
    | with_reducible refine ⟨pk1, ?_⟩
    | with_reducible refine ⟨pk2, ?_⟩
    | with_reducible refine ⟨pk3, ?_⟩
    | with_reducible refine ⟨pk4, ?_⟩
    | with_reducible refine ⟨pk5, ?_⟩
    | with_reducible refine ⟨pk6, ?_⟩
    | with_reducible refine ⟨trivial, ?_⟩
    | with_reducible refine ⟨fun _ => trivial, ?_⟩
    | with_reducible refine ⟨rfl, ?_⟩
    | with_reducible refine every_i (fun hd => ?_)
    | with_reducible refine everyN_i (fun k hk => ?_)
    | with_reducible refine everyD_i (fun d hd => ?_)
    | with_reducible refine fork_t (by assumption) ?_
    | with_reducible refine fork_f (by assumption) ?_
    | refine fork_t rfl ?_
    | refine fork_f rfl ?_
    | with_reducible refine fork_i (fun h => ?_) (fun h => ?_)
    | with_reducible refine both_i ?_ ?_
    | ((with_reducible refine alike_i ?_); exact ⟨rfl, rfl, rfl⟩)
    | ((with_reducible refine fin_i ?_); (conv => whnf); refine ⟨rfl, ?_⟩)
    | refine ⟨of_decide_eq_true rfl, ?_⟩
    | refine ⟨fun _ => of_decide_eq_true rfl, ?_⟩
    | ((with_reducible refine ⟨?_, ?_⟩); (focus (intros; simp_all; done)))
    | ((with_reducible refine ⟨?_, ?_⟩); (focus (intros; omega)))) <;> (try (conv => whnf)))
  all_goals ((with_reducible refine leaf_i ?_); (conv => whnf))
  repeat' ((with_reducible refine And.intro ?_ ?_) <;> (try (conv => whnf)))
  all_goals (try (first | with_reducible rfl | exact True.intro | rfl | exact id | exact fun h => h | exact fun _ => rfl))
set_option maxHeartbeats 4000000 in
theorem c_num2 : FnOk Try.prog 36 k_num2.con := by
  refine fnOkS mixed tys_ok (cs := []) trivial Try.func36 rfl (by kernel_rfl) Try.ntmps36 _ (h := ?_)
  rintro n
  refine ⟨rfl, fun _ => ?_⟩
  conv => whnf
  repeat' ((first
    | with_reducible refine ⟨fun h => h, ?_⟩
    | with_reducible refine ⟨pk1, ?_⟩
    | with_reducible refine ⟨pk2, ?_⟩
    | with_reducible refine ⟨pk3, ?_⟩
    | with_reducible refine ⟨pk4, ?_⟩
    | with_reducible refine ⟨pk5, ?_⟩
    | with_reducible refine ⟨pk6, ?_⟩
    | with_reducible refine ⟨trivial, ?_⟩
    | with_reducible refine ⟨fun _ => trivial, ?_⟩
    | with_reducible refine ⟨rfl, ?_⟩
    | with_reducible refine every_i (fun hd => ?_)
    | with_reducible refine everyN_i (fun k hk => ?_)
    | with_reducible refine everyD_i (fun d hd => ?_)
    | with_reducible refine fork_t (by assumption) ?_
    | with_reducible refine fork_f (by assumption) ?_
    | refine fork_t rfl ?_
    | refine fork_f rfl ?_
    | with_reducible refine fork_i (fun h => ?_) (fun h => ?_)
    | with_reducible refine both_i ?_ ?_
    | ((with_reducible refine alike_i ?_); exact ⟨rfl, rfl, rfl⟩)
    | ((with_reducible refine fin_i ?_); (conv => whnf); refine ⟨rfl, ?_⟩)
    | refine ⟨of_decide_eq_true rfl, ?_⟩
    | refine ⟨fun _ => of_decide_eq_true rfl, ?_⟩
    | ((with_reducible refine ⟨?_, ?_⟩); (focus (intros; simp_all; done)))
    | ((with_reducible refine ⟨?_, ?_⟩); (focus (intros; omega)))) <;> (try (conv => whnf)))
  all_goals ((with_reducible refine leaf_i ?_); (conv => whnf))
  repeat' ((with_reducible refine And.intro ?_ ?_) <;> (try (conv => whnf)))
  all_goals (try (first | with_reducible rfl | exact True.intro | rfl | exact id | exact fun h => h | exact fun _ => rfl))
set_option maxHeartbeats 4000000 in
theorem c_num3 : FnOk Try.prog 37 k_num3.con := by
  refine fnOkS mixed tys_ok (cs := []) trivial Try.func37 rfl (by kernel_rfl) Try.ntmps37 _ (h := ?_)
  rintro n
  refine ⟨rfl, fun _ => ?_⟩
  conv => whnf
  repeat' ((first
    | with_reducible refine ⟨fun h => h, ?_⟩
    | with_reducible refine ⟨pk1, ?_⟩
    | with_reducible refine ⟨pk2, ?_⟩
    | with_reducible refine ⟨pk3, ?_⟩
    | with_reducible refine ⟨pk4, ?_⟩
    | with_reducible refine ⟨pk5, ?_⟩
    | with_reducible refine ⟨pk6, ?_⟩
    | with_reducible refine ⟨trivial, ?_⟩
    | with_reducible refine ⟨fun _ => trivial, ?_⟩
    | with_reducible refine ⟨rfl, ?_⟩
    | with_reducible refine every_i (fun hd => ?_)
    | with_reducible refine everyN_i (fun k hk => ?_)
    | with_reducible refine everyD_i (fun d hd => ?_)
    | with_reducible refine fork_t (by assumption) ?_
    | with_reducible refine fork_f (by assumption) ?_
    | refine fork_t rfl ?_
    | refine fork_f rfl ?_
    | with_reducible refine fork_i (fun h => ?_) (fun h => ?_)
    | with_reducible refine both_i ?_ ?_
    | ((with_reducible refine alike_i ?_); exact ⟨rfl, rfl, rfl⟩)
    | ((with_reducible refine fin_i ?_); (conv => whnf); refine ⟨rfl, ?_⟩)
    | refine ⟨of_decide_eq_true rfl, ?_⟩
    | refine ⟨fun _ => of_decide_eq_true rfl, ?_⟩
    | ((with_reducible refine ⟨?_, ?_⟩); (focus (intros; simp_all; done)))
    | ((with_reducible refine ⟨?_, ?_⟩); (focus (intros; omega)))) <;> (try (conv => whnf)))
  all_goals ((with_reducible refine leaf_i ?_); (conv => whnf))
  repeat' ((with_reducible refine And.intro ?_ ?_) <;> (try (conv => whnf)))
  all_goals (try (first | with_reducible rfl | exact True.intro | rfl | exact id | exact fun h => h | exact fun _ => rfl))
set_option maxHeartbeats 4000000 in
theorem c_num4 : FnOk Try.prog 38 k_num4.con := by
  refine fnOkS mixed tys_ok (cs := []) trivial Try.func38 rfl (by kernel_rfl) Try.ntmps38 _ (h := ?_)
  rintro n
  refine ⟨rfl, fun _ => ?_⟩
  conv => whnf
  repeat' ((first
    | with_reducible refine ⟨fun h => h, ?_⟩
    | with_reducible refine ⟨pk1, ?_⟩
    | with_reducible refine ⟨pk2, ?_⟩
    | with_reducible refine ⟨pk3, ?_⟩
    | with_reducible refine ⟨pk4, ?_⟩
    | with_reducible refine ⟨pk5, ?_⟩
    | with_reducible refine ⟨pk6, ?_⟩
    | with_reducible refine ⟨trivial, ?_⟩
    | with_reducible refine ⟨fun _ => trivial, ?_⟩
    | with_reducible refine ⟨rfl, ?_⟩
    | with_reducible refine every_i (fun hd => ?_)
    | with_reducible refine everyN_i (fun k hk => ?_)
    | with_reducible refine everyD_i (fun d hd => ?_)
    | with_reducible refine fork_t (by assumption) ?_
    | with_reducible refine fork_f (by assumption) ?_
    | refine fork_t rfl ?_
    | refine fork_f rfl ?_
    | with_reducible refine fork_i (fun h => ?_) (fun h => ?_)
    | with_reducible refine both_i ?_ ?_
    | ((with_reducible refine alike_i ?_); exact ⟨rfl, rfl, rfl⟩)
    | ((with_reducible refine fin_i ?_); (conv => whnf); refine ⟨rfl, ?_⟩)
    | refine ⟨of_decide_eq_true rfl, ?_⟩
    | refine ⟨fun _ => of_decide_eq_true rfl, ?_⟩
    | ((with_reducible refine ⟨?_, ?_⟩); (focus (intros; simp_all; done)))
    | ((with_reducible refine ⟨?_, ?_⟩); (focus (intros; omega)))) <;> (try (conv => whnf)))
  all_goals ((with_reducible refine leaf_i ?_); (conv => whnf))
  repeat' ((with_reducible refine And.intro ?_ ?_) <;> (try (conv => whnf)))
  all_goals (try (first | with_reducible rfl | exact True.intro | rfl | exact id | exact fun h => h | exact fun _ => rfl))
set_option maxHeartbeats 4000000 in
theorem c_numbers : FnOk Try.prog 24 k_numbers.con := by
  refine fnOkS mixed tys_ok (cs := [(39, k_plain.con), (35, k_num1.con), (36, k_num2.con), (37, k_num3.con), (38, k_num4.con)]) ⟨c_plain, c_num1, c_num2, c_num3, c_num4, trivial⟩ Try.func24 rfl (by kernel_rfl) Try.ntmps24 _ (h := ?_)
  rintro ⟨k, n⟩
  refine ⟨rfl, fun _ => ?_⟩
  rcases kindCases k with h | h | h | h | h | h | h | h | h | h | h | ⟨m, h⟩ | ⟨m, h⟩ <;> subst h
  all_goals skip
  · conv => whnf
    repeat' ((first
      | with_reducible refine ⟨fun h => h, ?_⟩
      | with_reducible refine ⟨pk1, ?_⟩
      | with_reducible refine ⟨pk2, ?_⟩
      | with_reducible refine ⟨pk3, ?_⟩
      | with_reducible refine ⟨pk4, ?_⟩
      | with_reducible refine ⟨pk5, ?_⟩
      | with_reducible refine ⟨pk6, ?_⟩
      | with_reducible refine ⟨trivial, ?_⟩
      | with_reducible refine ⟨fun _ => trivial, ?_⟩
      | with_reducible refine ⟨rfl, ?_⟩
      | with_reducible refine every_i (fun hd => ?_)
      | with_reducible refine everyN_i (fun k hk => ?_)
      | with_reducible refine everyD_i (fun d hd => ?_)
      | with_reducible refine fork_t (by assumption) ?_
      | with_reducible refine fork_f (by assumption) ?_
      | refine fork_t rfl ?_
      | refine fork_f rfl ?_
      | with_reducible refine fork_i (fun h => ?_) (fun h => ?_)
      | with_reducible refine both_i ?_ ?_
      | ((with_reducible refine alike_i ?_); exact ⟨rfl, rfl, rfl⟩)
      | ((with_reducible refine fin_i ?_); (conv => whnf); refine ⟨rfl, ?_⟩)
      | refine ⟨of_decide_eq_true rfl, ?_⟩
      | refine ⟨fun _ => of_decide_eq_true rfl, ?_⟩
      | ((with_reducible refine ⟨?_, ?_⟩); (focus (intros; simp_all; done)))
      | ((with_reducible refine ⟨?_, ?_⟩); (focus (intros; omega)))) <;> (try (conv => whnf)))
    all_goals ((with_reducible refine leaf_i ?_); (conv => whnf))
    repeat' ((with_reducible refine And.intro ?_ ?_) <;> (try (conv => whnf)))
    all_goals (try (first | with_reducible rfl | exact True.intro | rfl | exact id | exact fun h => h | exact fun _ => rfl))
  · conv => whnf
    repeat' ((first
      | with_reducible refine ⟨fun h => h, ?_⟩
      | with_reducible refine ⟨pk1, ?_⟩
      | with_reducible refine ⟨pk2, ?_⟩
      | with_reducible refine ⟨pk3, ?_⟩
      | with_reducible refine ⟨pk4, ?_⟩
      | with_reducible refine ⟨pk5, ?_⟩
      | with_reducible refine ⟨pk6, ?_⟩
      | with_reducible refine ⟨trivial, ?_⟩
      | with_reducible refine ⟨fun _ => trivial, ?_⟩
      | with_reducible refine ⟨rfl, ?_⟩
      | with_reducible refine every_i (fun hd => ?_)
      | with_reducible refine everyN_i (fun k hk => ?_)
      | with_reducible refine everyD_i (fun d hd => ?_)
      | with_reducible refine fork_t (by assumption) ?_
      | with_reducible refine fork_f (by assumption) ?_
      | refine fork_t rfl ?_
      | refine fork_f rfl ?_
      | with_reducible refine fork_i (fun h => ?_) (fun h => ?_)
      | with_reducible refine both_i ?_ ?_
      | ((with_reducible refine alike_i ?_); exact ⟨rfl, rfl, rfl⟩)
      | ((with_reducible refine fin_i ?_); (conv => whnf); refine ⟨rfl, ?_⟩)
      | refine ⟨of_decide_eq_true rfl, ?_⟩
      | refine ⟨fun _ => of_decide_eq_true rfl, ?_⟩
      | ((with_reducible refine ⟨?_, ?_⟩); (focus (intros; simp_all; done)))
      | ((with_reducible refine ⟨?_, ?_⟩); (focus (intros; omega)))) <;> (try (conv => whnf)))
    all_goals ((with_reducible refine leaf_i ?_); (conv => whnf))
    repeat' ((with_reducible refine And.intro ?_ ?_) <;> (try (conv => whnf)))
    all_goals (try (first | with_reducible rfl | exact True.intro | rfl | exact id | exact fun h => h | exact fun _ => rfl))
  · conv => whnf
    repeat' ((first
      | with_reducible refine ⟨fun h => h, ?_⟩
      | with_reducible refine ⟨pk1, ?_⟩
      | with_reducible refine ⟨pk2, ?_⟩
      | with_reducible refine ⟨pk3, ?_⟩
      | with_reducible refine ⟨pk4, ?_⟩
      | with_reducible refine ⟨pk5, ?_⟩
      | with_reducible refine ⟨pk6, ?_⟩
      | with_reducible refine ⟨trivial, ?_⟩
      | with_reducible refine ⟨fun _ => trivial, ?_⟩
      | with_reducible refine ⟨rfl, ?_⟩
      | with_reducible refine every_i (fun hd => ?_)
      | with_reducible refine everyN_i (fun k hk => ?_)
      | with_reducible refine everyD_i (fun d hd => ?_)
      | with_reducible refine fork_t (by assumption) ?_
      | with_reducible refine fork_f (by assumption) ?_
      | refine fork_t rfl ?_
      | refine fork_f rfl ?_
      | with_reducible refine fork_i (fun h => ?_) (fun h => ?_)
      | with_reducible refine both_i ?_ ?_
      | ((with_reducible refine alike_i ?_); exact ⟨rfl, rfl, rfl⟩)
      | ((with_reducible refine fin_i ?_); (conv => whnf); refine ⟨rfl, ?_⟩)
      | refine ⟨of_decide_eq_true rfl, ?_⟩
      | refine ⟨fun _ => of_decide_eq_true rfl, ?_⟩
      | ((with_reducible refine ⟨?_, ?_⟩); (focus (intros; simp_all; done)))
      | ((with_reducible refine ⟨?_, ?_⟩); (focus (intros; omega)))) <;> (try (conv => whnf)))
    all_goals ((with_reducible refine leaf_i ?_); (conv => whnf))
    repeat' ((with_reducible refine And.intro ?_ ?_) <;> (try (conv => whnf)))
    all_goals (try (first | with_reducible rfl | exact True.intro | rfl | exact id | exact fun h => h | exact fun _ => rfl))
  · conv => whnf
    repeat' ((first
      | with_reducible refine ⟨fun h => h, ?_⟩
      | with_reducible refine ⟨pk1, ?_⟩
      | with_reducible refine ⟨pk2, ?_⟩
      | with_reducible refine ⟨pk3, ?_⟩
      | with_reducible refine ⟨pk4, ?_⟩
      | with_reducible refine ⟨pk5, ?_⟩
      | with_reducible refine ⟨pk6, ?_⟩
      | with_reducible refine ⟨trivial, ?_⟩
      | with_reducible refine ⟨fun _ => trivial, ?_⟩
      | with_reducible refine ⟨rfl, ?_⟩
      | with_reducible refine every_i (fun hd => ?_)
      | with_reducible refine everyN_i (fun k hk => ?_)
      | with_reducible refine everyD_i (fun d hd => ?_)
      | with_reducible refine fork_t (by assumption) ?_
      | with_reducible refine fork_f (by assumption) ?_
      | refine fork_t rfl ?_
      | refine fork_f rfl ?_
      | with_reducible refine fork_i (fun h => ?_) (fun h => ?_)
      | with_reducible refine both_i ?_ ?_
      | ((with_reducible refine alike_i ?_); exact ⟨rfl, rfl, rfl⟩)
      | ((with_reducible refine fin_i ?_); (conv => whnf); refine ⟨rfl, ?_⟩)
      | refine ⟨of_decide_eq_true rfl, ?_⟩
      | refine ⟨fun _ => of_decide_eq_true rfl, ?_⟩
      | ((with_reducible refine ⟨?_, ?_⟩); (focus (intros; simp_all; done)))
      | ((with_reducible refine ⟨?_, ?_⟩); (focus (intros; omega)))) <;> (try (conv => whnf)))
    all_goals ((with_reducible refine leaf_i ?_); (conv => whnf))
    repeat' ((with_reducible refine And.intro ?_ ?_) <;> (try (conv => whnf)))
    all_goals (try (first | with_reducible rfl | exact True.intro | rfl | exact id | exact fun h => h | exact fun _ => rfl))
  · conv => whnf
    repeat' ((first
      | with_reducible refine ⟨fun h => h, ?_⟩
      | with_reducible refine ⟨pk1, ?_⟩
      | with_reducible refine ⟨pk2, ?_⟩
      | with_reducible refine ⟨pk3, ?_⟩
      | with_reducible refine ⟨pk4, ?_⟩
      | with_reducible refine ⟨pk5, ?_⟩
      | with_reducible refine ⟨pk6, ?_⟩
      | with_reducible refine ⟨trivial, ?_⟩
      | with_reducible refine ⟨fun _ => trivial, ?_⟩
      | with_reducible refine ⟨rfl, ?_⟩
      | with_reducible refine every_i (fun hd => ?_)
      | with_reducible refine everyN_i (fun k hk => ?_)
      | with_reducible refine everyD_i (fun d hd => ?_)
      | with_reducible refine fork_t (by assumption) ?_
      | with_reducible refine fork_f (by assumption) ?_
      | refine fork_t rfl ?_
      | refine fork_f rfl ?_
      | with_reducible refine fork_i (fun h => ?_) (fun h => ?_)
      | with_reducible refine both_i ?_ ?_
      | ((with_reducible refine alike_i ?_); exact ⟨rfl, rfl, rfl⟩)
      | ((with_reducible refine fin_i ?_); (conv => whnf); refine ⟨rfl, ?_⟩)
      | refine ⟨of_decide_eq_true rfl, ?_⟩
      | refine ⟨fun _ => of_decide_eq_true rfl, ?_⟩
      | ((with_reducible refine ⟨?_, ?_⟩); (focus (intros; simp_all; done)))
      | ((with_reducible refine ⟨?_, ?_⟩); (focus (intros; omega)))) <;> (try (conv => whnf)))
    all_goals ((with_reducible refine leaf_i ?_); (conv => whnf))
    repeat' ((with_reducible refine And.intro ?_ ?_) <;> (try (conv => whnf)))
    all_goals (try (first | with_reducible rfl | exact True.intro | rfl | exact id | exact fun h => h | exact fun _ => rfl))
  · conv => whnf
    repeat' ((first
      | with_reducible refine ⟨fun h => h, ?_⟩
      | with_reducible refine ⟨pk1, ?_⟩
      | with_reducible refine ⟨pk2, ?_⟩
      | with_reducible refine ⟨pk3, ?_⟩
      | with_reducible refine ⟨pk4, ?_⟩
      | with_reducible refine ⟨pk5, ?_⟩
      | with_reducible refine ⟨pk6, ?_⟩
      | with_reducible refine ⟨trivial, ?_⟩
      | with_reducible refine ⟨fun _ => trivial, ?_⟩
      | with_reducible refine ⟨rfl, ?_⟩
      | with_reducible refine every_i (fun hd => ?_)
      | with_reducible refine everyN_i (fun k hk => ?_)
      | with_reducible refine everyD_i (fun d hd => ?_)
      | with_reducible refine fork_t (by assumption) ?_
      | with_reducible refine fork_f (by assumption) ?_
      | refine fork_t rfl ?_
      | refine fork_f rfl ?_
      | with_reducible refine fork_i (fun h => ?_) (fun h => ?_)
      | with_reducible refine both_i ?_ ?_
      | ((with_reducible refine alike_i ?_); exact ⟨rfl, rfl, rfl⟩)
      | ((with_reducible refine fin_i ?_); (conv => whnf); refine ⟨rfl, ?_⟩)
      | refine ⟨of_decide_eq_true rfl, ?_⟩
      | refine ⟨fun _ => of_decide_eq_true rfl, ?_⟩
      | ((with_reducible refine ⟨?_, ?_⟩); (focus (intros; simp_all; done)))
      | ((with_reducible refine ⟨?_, ?_⟩); (focus (intros; omega)))) <;> (try (conv => whnf)))
    all_goals ((with_reducible refine leaf_i ?_); (conv => whnf))
    repeat' ((with_reducible refine And.intro ?_ ?_) <;> (try (conv => whnf)))
    all_goals (try (first | with_reducible rfl | exact True.intro | rfl | exact id | exact fun h => h | exact fun _ => rfl))
  · conv => whnf
    repeat' ((first
      | with_reducible refine ⟨fun h => h, ?_⟩
      | with_reducible refine ⟨pk1, ?_⟩
      | with_reducible refine ⟨pk2, ?_⟩
      | with_reducible refine ⟨pk3, ?_⟩
      | with_reducible refine ⟨pk4, ?_⟩
      | with_reducible refine ⟨pk5, ?_⟩
      | with_reducible refine ⟨pk6, ?_⟩
      | with_reducible refine ⟨trivial, ?_⟩
      | with_reducible refine ⟨fun _ => trivial, ?_⟩
      | with_reducible refine ⟨rfl, ?_⟩
      | with_reducible refine every_i (fun hd => ?_)
      | with_reducible refine everyN_i (fun k hk => ?_)
      | with_reducible refine everyD_i (fun d hd => ?_)
      | with_reducible refine fork_t (by assumption) ?_
      | with_reducible refine fork_f (by assumption) ?_
      | refine fork_t rfl ?_
      | refine fork_f rfl ?_
      | with_reducible refine fork_i (fun h => ?_) (fun h => ?_)
      | with_reducible refine both_i ?_ ?_
      | ((with_reducible refine alike_i ?_); exact ⟨rfl, rfl, rfl⟩)
      | ((with_reducible refine fin_i ?_); (conv => whnf); refine ⟨rfl, ?_⟩)
      | refine ⟨of_decide_eq_true rfl, ?_⟩
      | refine ⟨fun _ => of_decide_eq_true rfl, ?_⟩
      | ((with_reducible refine ⟨?_, ?_⟩); (focus (intros; simp_all; done)))
      | ((with_reducible refine ⟨?_, ?_⟩); (focus (intros; omega)))) <;> (try (conv => whnf)))
    all_goals ((with_reducible refine leaf_i ?_); (conv => whnf))
    repeat' ((with_reducible refine And.intro ?_ ?_) <;> (try (conv => whnf)))
    all_goals (try (first | with_reducible rfl | exact True.intro | rfl | exact id | exact fun h => h | exact fun _ => rfl))
  · conv => whnf
    repeat' ((first
      | with_reducible refine ⟨fun h => h, ?_⟩
      | with_reducible refine ⟨pk1, ?_⟩
      | with_reducible refine ⟨pk2, ?_⟩
      | with_reducible refine ⟨pk3, ?_⟩
      | with_reducible refine ⟨pk4, ?_⟩
      | with_reducible refine ⟨pk5, ?_⟩
      | with_reducible refine ⟨pk6, ?_⟩
      | with_reducible refine ⟨trivial, ?_⟩
      | with_reducible refine ⟨fun _ => trivial, ?_⟩
      | with_reducible refine ⟨rfl, ?_⟩
      | with_reducible refine every_i (fun hd => ?_)
      | with_reducible refine everyN_i (fun k hk => ?_)
      | with_reducible refine everyD_i (fun d hd => ?_)
      | with_reducible refine fork_t (by assumption) ?_
      | with_reducible refine fork_f (by assumption) ?_
      | refine fork_t rfl ?_
      | refine fork_f rfl ?_
      | with_reducible refine fork_i (fun h => ?_) (fun h => ?_)
      | with_reducible refine both_i ?_ ?_
      | ((with_reducible refine alike_i ?_); exact ⟨rfl, rfl, rfl⟩)
      | ((with_reducible refine fin_i ?_); (conv => whnf); refine ⟨rfl, ?_⟩)
      | refine ⟨of_decide_eq_true rfl, ?_⟩
      | refine ⟨fun _ => of_decide_eq_true rfl, ?_⟩
      | ((with_reducible refine ⟨?_, ?_⟩); (focus (intros; simp_all; done)))
      | ((with_reducible refine ⟨?_, ?_⟩); (focus (intros; omega)))) <;> (try (conv => whnf)))
    all_goals ((with_reducible refine leaf_i ?_); (conv => whnf))
    repeat' ((with_reducible refine And.intro ?_ ?_) <;> (try (conv => whnf)))
    all_goals (try (first | with_reducible rfl | exact True.intro | rfl | exact id | exact fun h => h | exact fun _ => rfl))
  · conv => whnf
    repeat' ((first
      | with_reducible refine ⟨fun h => h, ?_⟩
      | with_reducible refine ⟨pk1, ?_⟩
      | with_reducible refine ⟨pk2, ?_⟩
      | with_reducible refine ⟨pk3, ?_⟩
      | with_reducible refine ⟨pk4, ?_⟩
      | with_reducible refine ⟨pk5, ?_⟩
      | with_reducible refine ⟨pk6, ?_⟩
      | with_reducible refine ⟨trivial, ?_⟩
      | with_reducible refine ⟨fun _ => trivial, ?_⟩
      | with_reducible refine ⟨rfl, ?_⟩
      | with_reducible refine every_i (fun hd => ?_)
      | with_reducible refine everyN_i (fun k hk => ?_)
      | with_reducible refine everyD_i (fun d hd => ?_)
      | with_reducible refine fork_t (by assumption) ?_
      | with_reducible refine fork_f (by assumption) ?_
      | refine fork_t rfl ?_
      | refine fork_f rfl ?_
      | with_reducible refine fork_i (fun h => ?_) (fun h => ?_)
      | with_reducible refine both_i ?_ ?_
      | ((with_reducible refine alike_i ?_); exact ⟨rfl, rfl, rfl⟩)
      | ((with_reducible refine fin_i ?_); (conv => whnf); refine ⟨rfl, ?_⟩)
      | refine ⟨of_decide_eq_true rfl, ?_⟩
      | refine ⟨fun _ => of_decide_eq_true rfl, ?_⟩
      | ((with_reducible refine ⟨?_, ?_⟩); (focus (intros; simp_all; done)))
      | ((with_reducible refine ⟨?_, ?_⟩); (focus (intros; omega)))) <;> (try (conv => whnf)))
    all_goals ((with_reducible refine leaf_i ?_); (conv => whnf))
    repeat' ((with_reducible refine And.intro ?_ ?_) <;> (try (conv => whnf)))
    all_goals (try (first | with_reducible rfl | exact True.intro | rfl | exact id | exact fun h => h | exact fun _ => rfl))
  · conv => whnf
    repeat' ((first
      | with_reducible refine ⟨fun h => h, ?_⟩
      | with_reducible refine ⟨pk1, ?_⟩
      | with_reducible refine ⟨pk2, ?_⟩
      | with_reducible refine ⟨pk3, ?_⟩
      | with_reducible refine ⟨pk4, ?_⟩
      | with_reducible refine ⟨pk5, ?_⟩
      | with_reducible refine ⟨pk6, ?_⟩
      | with_reducible refine ⟨trivial, ?_⟩
      | with_reducible refine ⟨fun _ => trivial, ?_⟩
      | with_reducible refine ⟨rfl, ?_⟩
      | with_reducible refine every_i (fun hd => ?_)
      | with_reducible refine everyN_i (fun k hk => ?_)
      | with_reducible refine everyD_i (fun d hd => ?_)
      | with_reducible refine fork_t (by assumption) ?_
      | with_reducible refine fork_f (by assumption) ?_
      | refine fork_t rfl ?_
      | refine fork_f rfl ?_
      | with_reducible refine fork_i (fun h => ?_) (fun h => ?_)
      | with_reducible refine both_i ?_ ?_
      | ((with_reducible refine alike_i ?_); exact ⟨rfl, rfl, rfl⟩)
      | ((with_reducible refine fin_i ?_); (conv => whnf); refine ⟨rfl, ?_⟩)
      | refine ⟨of_decide_eq_true rfl, ?_⟩
      | refine ⟨fun _ => of_decide_eq_true rfl, ?_⟩
      | ((with_reducible refine ⟨?_, ?_⟩); (focus (intros; simp_all; done)))
      | ((with_reducible refine ⟨?_, ?_⟩); (focus (intros; omega)))) <;> (try (conv => whnf)))
    all_goals ((with_reducible refine leaf_i ?_); (conv => whnf))
    repeat' ((with_reducible refine And.intro ?_ ?_) <;> (try (conv => whnf)))
    all_goals (try (first | with_reducible rfl | exact True.intro | rfl | exact id | exact fun h => h | exact fun _ => rfl))
  · conv => whnf
    repeat' ((first
      | with_reducible refine ⟨fun h => h, ?_⟩
      | with_reducible refine ⟨pk1, ?_⟩
      | with_reducible refine ⟨pk2, ?_⟩
      | with_reducible refine ⟨pk3, ?_⟩
      | with_reducible refine ⟨pk4, ?_⟩
      | with_reducible refine ⟨pk5, ?_⟩
      | with_reducible refine ⟨pk6, ?_⟩
      | with_reducible refine ⟨trivial, ?_⟩
      | with_reducible refine ⟨fun _ => trivial, ?_⟩
      | with_reducible refine ⟨rfl, ?_⟩
      | with_reducible refine every_i (fun hd => ?_)
      | with_reducible refine everyN_i (fun k hk => ?_)
      | with_reducible refine everyD_i (fun d hd => ?_)
      | with_reducible refine fork_t (by assumption) ?_
      | with_reducible refine fork_f (by assumption) ?_
      | refine fork_t rfl ?_
      | refine fork_f rfl ?_
      | with_reducible refine fork_i (fun h => ?_) (fun h => ?_)
      | with_reducible refine both_i ?_ ?_
      | ((with_reducible refine alike_i ?_); exact ⟨rfl, rfl, rfl⟩)
      | ((with_reducible refine fin_i ?_); (conv => whnf); refine ⟨rfl, ?_⟩)
      | refine ⟨of_decide_eq_true rfl, ?_⟩
      | refine ⟨fun _ => of_decide_eq_true rfl, ?_⟩
      | ((with_reducible refine ⟨?_, ?_⟩); (focus (intros; simp_all; done)))
      | ((with_reducible refine ⟨?_, ?_⟩); (focus (intros; omega)))) <;> (try (conv => whnf)))
    all_goals ((with_reducible refine leaf_i ?_); (conv => whnf))
    repeat' ((with_reducible refine And.intro ?_ ?_) <;> (try (conv => whnf)))
    all_goals (try (first | with_reducible rfl | exact True.intro | rfl | exact id | exact fun h => h | exact fun _ => rfl))
  · conv => whnf
    repeat' ((first
      | with_reducible refine ⟨fun h => h, ?_⟩
      | with_reducible refine ⟨pk1, ?_⟩
      | with_reducible refine ⟨pk2, ?_⟩
      | with_reducible refine ⟨pk3, ?_⟩
      | with_reducible refine ⟨pk4, ?_⟩
      | with_reducible refine ⟨pk5, ?_⟩
      | with_reducible refine ⟨pk6, ?_⟩
      | with_reducible refine ⟨trivial, ?_⟩
      | with_reducible refine ⟨fun _ => trivial, ?_⟩
      | with_reducible refine ⟨rfl, ?_⟩
      | with_reducible refine every_i (fun hd => ?_)
      | with_reducible refine everyN_i (fun k hk => ?_)
      | with_reducible refine everyD_i (fun d hd => ?_)
      | with_reducible refine fork_t (by assumption) ?_
      | with_reducible refine fork_f (by assumption) ?_
      | refine fork_t rfl ?_
      | refine fork_f rfl ?_
      | with_reducible refine fork_i (fun h => ?_) (fun h => ?_)
      | with_reducible refine both_i ?_ ?_
      | ((with_reducible refine alike_i ?_); exact ⟨rfl, rfl, rfl⟩)
      | ((with_reducible refine fin_i ?_); (conv => whnf); refine ⟨rfl, ?_⟩)
      | refine ⟨of_decide_eq_true rfl, ?_⟩
      | refine ⟨fun _ => of_decide_eq_true rfl, ?_⟩
      | ((with_reducible refine ⟨?_, ?_⟩); (focus (intros; simp_all; done)))
      | ((with_reducible refine ⟨?_, ?_⟩); (focus (intros; omega)))) <;> (try (conv => whnf)))
    all_goals ((with_reducible refine leaf_i ?_); (conv => whnf))
    repeat' ((with_reducible refine And.intro ?_ ?_) <;> (try (conv => whnf)))
    all_goals (try (first | with_reducible rfl | exact True.intro | rfl | exact id | exact fun h => h | exact fun _ => rfl))
  · conv => whnf
    repeat' ((first
      | with_reducible refine ⟨fun h => h, ?_⟩
      | with_reducible refine ⟨pk1, ?_⟩
      | with_reducible refine ⟨pk2, ?_⟩
      | with_reducible refine ⟨pk3, ?_⟩
      | with_reducible refine ⟨pk4, ?_⟩
      | with_reducible refine ⟨pk5, ?_⟩
      | with_reducible refine ⟨pk6, ?_⟩
      | with_reducible refine ⟨trivial, ?_⟩
      | with_reducible refine ⟨fun _ => trivial, ?_⟩
      | with_reducible refine ⟨rfl, ?_⟩
      | with_reducible refine every_i (fun hd => ?_)
      | with_reducible refine everyN_i (fun k hk => ?_)
      | with_reducible refine everyD_i (fun d hd => ?_)
      | with_reducible refine fork_t (by assumption) ?_
      | with_reducible refine fork_f (by assumption) ?_
      | refine fork_t rfl ?_
      | refine fork_f rfl ?_
      | with_reducible refine fork_i (fun h => ?_) (fun h => ?_)
      | with_reducible refine both_i ?_ ?_
      | ((with_reducible refine alike_i ?_); exact ⟨rfl, rfl, rfl⟩)
      | ((with_reducible refine fin_i ?_); (conv => whnf); refine ⟨rfl, ?_⟩)
      | refine ⟨of_decide_eq_true rfl, ?_⟩
      | refine ⟨fun _ => of_decide_eq_true rfl, ?_⟩
      | ((with_reducible refine ⟨?_, ?_⟩); (focus (intros; simp_all; done)))
      | ((with_reducible refine ⟨?_, ?_⟩); (focus (intros; omega)))) <;> (try (conv => whnf)))
    all_goals ((with_reducible refine leaf_i ?_); (conv => whnf))
    repeat' ((with_reducible refine And.intro ?_ ?_) <;> (try (conv => whnf)))
    all_goals (try (first | with_reducible rfl | exact True.intro | rfl | exact id | exact fun h => h | exact fun _ => rfl))
end Go.Proofs.Ytbgcgokikekmoaa

/- Layer 10: closures, and ContainsFunc of each. Printed by wip/tool/gen10c.py. -/
namespace Go.Proofs.Ytbgcgokikekmoaa
set_option maxRecDepth 100000
open Go Go.RowKit Go.Proofs.Ytbgcgokikekmoaa.Eng
def shNil : Sh Unit := ⟨fun | .nil => some () | _ => none, fun _ => .nil, fun v x h c vs hs => by
  split at h
  · exact hs
  · cases h⟩
def shCons {α β : Type} (A : Sh α) (B : Sh β) : Sh (α × β) := ⟨fun | .cons a b => (match A.get a, B.get b with | some x, some y => some (x, y) | _, _ => none) | _ => none, fun p => .cons (A.put p.1) (B.put p.2), fun v x h c vs hs => by
  split at h
  · rename_i a b
    split at h
    · rename_i x y hx hy
      injection h with h; subst h
      obtain ⟨u, r, e, h1, h2⟩ := hs
      exact ⟨u, r, e, A.ok _ _ hx c _ h1, B.ok _ _ hy c _ h2⟩
    · cases h
  · cases h⟩
def shFn {α : Type} (f : FuncId) (A : Sh α) : Sh α := ⟨fun | .fn g l => bif Nat.beq f g then A.get l else none | _ => none, fun x => .fn f (A.put x), fun v x h c vs hs => by
  split at h
  · rename_i g l
    cases hb : Nat.beq f g with
    | false => rw [hb] at h; cases h
    | true =>
      rw [hb] at h
      have := Nat.eq_of_beq_eq_true hb
      subst this
      obtain ⟨cs, e, h2⟩ := hs
      exact ⟨cs, e, A.ok _ _ h c _ h2⟩
  · cases h⟩
def k_ports1 : Sig := .arg shI fun i => .arg (shRp (shR tN)) fun gg => .done { pre := True, res := B (wrongB gg i) }
set_option maxHeartbeats 4000000 in
theorem c_ports1 : FnOk Try.prog 40 k_ports1.con := by
  refine fnOkS mixed tys_ok (cs := []) trivial Try.func40 rfl (by kernel_rfl) Try.ntmps40 _ (h := ?_)
  intro i gg
  refine ⟨rfl, fun hp => ?_⟩
  conv => whnf
  repeat' ((first
    | with_reducible refine ⟨fun h => h, ?_⟩
    | with_reducible refine ⟨pk1, ?_⟩
    | with_reducible refine ⟨pk2, ?_⟩
    | with_reducible refine ⟨pk3, ?_⟩
    | with_reducible refine ⟨pk4, ?_⟩
    | with_reducible refine ⟨pk5, ?_⟩
    | with_reducible refine ⟨pk6, ?_⟩
    | with_reducible refine ⟨trivial, ?_⟩
    | with_reducible refine ⟨fun _ => trivial, ?_⟩
    | with_reducible refine ⟨rfl, ?_⟩
    | with_reducible refine every_i (fun hd => ?_)
    | with_reducible refine everyN_i (fun k hk => ?_)
    | with_reducible refine everyD_i (fun d hd => ?_)
    | with_reducible refine fork_t (by assumption) ?_
    | with_reducible refine fork_f (by assumption) ?_
    | refine fork_t rfl ?_
    | refine fork_f rfl ?_
    | with_reducible refine fork_i (fun h => ?_) (fun h => ?_)
    | with_reducible refine both_i ?_ ?_
    | ((with_reducible refine alike_i ?_); exact ⟨rfl, rfl, rfl⟩)
    | ((with_reducible refine fin_i ?_); (conv => whnf); refine ⟨rfl, ?_⟩)
    | refine ⟨of_decide_eq_true rfl, ?_⟩
    | refine ⟨fun _ => of_decide_eq_true rfl, ?_⟩
    | ((with_reducible refine ⟨?_, ?_⟩); (focus (intros; simp_all; done)))
    | ((with_reducible refine ⟨?_, ?_⟩); (focus (intros; omega)))) <;> (try (conv => whnf)))
  all_goals ((with_reducible refine leaf_i ?_); (conv => whnf))
  repeat' ((with_reducible refine And.intro ?_ ?_) <;> (try (conv => whnf)))
  all_goals (try (first | with_reducible rfl | exact True.intro | rfl | exact id | exact fun h => h | exact fun _ => rfl))
def k_xports1 : Sig := .arg (shR tI) fun l => .arg (shFn 40 (shCons (shRp (shR tN)) (shNil))) fun s => .done { pre := l.length < 4611686018427387904 ∧ ∀ x ∈ l, True, res := I (idxP ((wrongB s.1)) 0 l) }
set_option maxHeartbeats 4000000 in
theorem c_xports1 : FnOk Try.prog 52 k_xports1.con := by
  refine fnOkS mixed tys_ok (cs := [(40, k_ports1.con)]) ⟨c_ports1, trivial⟩ Try.func52 rfl (by kernel_rfl) Try.ntmps52 _ (h := ?_)
  intro g s
  refine ⟨rfl, fun hp => ?_⟩
  obtain ⟨hp1, hp2⟩ := hp
  conv => whnf
  repeat' ((first
    | with_reducible refine ⟨fun h => h, ?_⟩
    | with_reducible refine ⟨pk1, ?_⟩
    | with_reducible refine ⟨pk2, ?_⟩
    | with_reducible refine ⟨pk3, ?_⟩
    | with_reducible refine ⟨pk4, ?_⟩
    | with_reducible refine ⟨pk5, ?_⟩
    | with_reducible refine ⟨pk6, ?_⟩
    | with_reducible refine ⟨trivial, ?_⟩
    | with_reducible refine ⟨fun _ => trivial, ?_⟩
    | with_reducible refine ⟨rfl, ?_⟩
    | with_reducible refine every_i (fun hd => ?_)
    | with_reducible refine everyN_i (fun k hk => ?_)
    | with_reducible refine everyD_i (fun d hd => ?_)
    | with_reducible refine fork_t (by assumption) ?_
    | with_reducible refine fork_f (by assumption) ?_
    | refine fork_t rfl ?_
    | refine fork_f rfl ?_
    | with_reducible refine fork_i (fun h => ?_) (fun h => ?_)
    | with_reducible refine both_i ?_ ?_
    | ((with_reducible refine alike_i ?_); exact ⟨rfl, rfl, rfl⟩)
    | ((with_reducible refine fin_i ?_); (conv => whnf); refine ⟨rfl, ?_⟩)
    | refine ⟨of_decide_eq_true rfl, ?_⟩
    | refine ⟨fun _ => of_decide_eq_true rfl, ?_⟩
    | ((with_reducible refine ⟨?_, ?_⟩); (focus (intros; simp_all; done)))
    | ((with_reducible refine ⟨?_, ?_⟩); (focus (intros; omega)))) <;> (try (conv => whnf)))
  refine looped (σ := Nat) (fun j => [(8, I j)]) (fun _ => []) (fun j => j ≤ g.length ∧ idxP ((wrongB s.1)) j (g.drop j) = idxP ((wrongB s.1)) 0 g) (fun j => g.length - j) 0 ⟨Nat.zero_le _, rfl⟩ ?_ ?_
  · conv => whnf
    refine ⟨rfl, leaf_i ?_⟩
    repeat' ((with_reducible refine And.intro ?_ ?_) <;> (try (conv => whnf)))
    all_goals (try (first | with_reducible rfl | exact True.intro | rfl | exact id | exact fun h => h | exact fun _ => rfl))
  · rintro j ⟨hj, hl⟩
    dsimp only at hj hl ⊢
    have hpre : decide ((j : Int) < (g.length : Int)) = true → True := fun h => hp2 _ (getE_mem g (lt_t h))
    conv => whnf
    repeat' ((first
      | with_reducible refine ⟨fun h => h, ?_⟩
      | with_reducible refine ⟨pk1, ?_⟩
      | with_reducible refine ⟨pk2, ?_⟩
      | with_reducible refine ⟨pk3, ?_⟩
      | with_reducible refine ⟨pk4, ?_⟩
      | with_reducible refine ⟨pk5, ?_⟩
      | with_reducible refine ⟨pk6, ?_⟩
      | with_reducible refine ⟨trivial, ?_⟩
      | with_reducible refine ⟨fun _ => trivial, ?_⟩
      | with_reducible refine ⟨rfl, ?_⟩
      | with_reducible refine every_i (fun hd => ?_)
      | with_reducible refine everyN_i (fun k hk => ?_)
      | with_reducible refine everyD_i (fun d hd => ?_)
      | with_reducible refine fork_t (by assumption) ?_
      | with_reducible refine fork_f (by assumption) ?_
      | refine fork_t rfl ?_
      | refine fork_f rfl ?_
      | with_reducible refine fork_i (fun h => ?_) (fun h => ?_)
      | with_reducible refine both_i ?_ ?_
      | ((with_reducible refine alike_i ?_); exact ⟨rfl, rfl, rfl⟩)
      | ((with_reducible refine fin_i ?_); (conv => whnf); refine ⟨rfl, ?_⟩)
      | refine ⟨hpre (by assumption), ?_⟩
      | refine ⟨of_decide_eq_true rfl, ?_⟩
      | refine ⟨fun _ => of_decide_eq_true rfl, ?_⟩
      | ((with_reducible refine ⟨?_, ?_⟩); (focus (intros; simp_all; done)))
      | ((with_reducible refine ⟨?_, ?_⟩); (focus (intros; omega)))) <;> (try (conv => whnf)))
    · rename_i hj'
      have hj' := lt_t hj'
      have h : (wrongB s.1) (getE tI g j).1 = true := h
      rw [drop_get _ hj', idxP, if_pos h] at hl
      all_goals ((with_reducible refine leaf_i ?_); (conv => whnf))
      repeat' ((with_reducible refine And.intro ?_ ?_) <;> (try (conv => whnf)))
      all_goals (try (first | with_reducible rfl | exact True.intro | rfl | exact id | exact fun h => h | exact fun _ => rfl))
      all_goals first | exact hl | rfl
    · rename_i hj'
      have hj' := lt_t hj'
      have h' : ¬ (wrongB s.1) (getE tI g j).1 = true := fun hh => Bool.noConfusion (h.symm.trans hh)
      rw [drop_get _ hj', idxP, if_neg h'] at hl
      refine next_i (j + 1) ⟨hj', hl⟩ (by omega) rfl rfl ?_
      conv => whnf
      refine ⟨rfl, leaf_i ?_⟩
      repeat' ((with_reducible refine And.intro ?_ ?_) <;> (try (conv => whnf)))
      all_goals (try (first | with_reducible rfl | exact True.intro | rfl | exact id | exact fun h => h | exact fun _ => rfl))
      all_goals first | exact wrapS (Nat.lt_trans hj' hp1) | rfl
    · have hj' := lt_f h
      rw [List.drop_eq_nil_of_le hj', idxP] at hl
      all_goals ((with_reducible refine leaf_i ?_); (conv => whnf))
      repeat' ((with_reducible refine And.intro ?_ ?_) <;> (try (conv => whnf)))
      all_goals (try (first | with_reducible rfl | exact True.intro | rfl | exact id | exact fun h => h | exact fun _ => rfl))
      all_goals first | exact hl | rfl
def k_hports1 : Sig := .arg (shR tI) fun l => .arg (shFn 40 (shCons (shRp (shR tN)) (shNil))) fun s => .done { pre := l.length < 4611686018427387904 ∧ ∀ x ∈ l, True, res := B (hasP ((wrongB s.1)) l) }
set_option maxHeartbeats 4000000 in
theorem c_hports1 : FnOk Try.prog 42 k_hports1.con := by
  refine fnOkS mixed tys_ok (cs := [(52, k_xports1.con)]) ⟨c_xports1, trivial⟩ Try.func42 rfl (by kernel_rfl) Try.ntmps42 _ (h := ?_)
  intro g s
  refine ⟨rfl, fun hp => ?_⟩
  conv => whnf
  repeat' ((first
    | with_reducible refine ⟨fun h => h, ?_⟩
    | with_reducible refine ⟨pk1, ?_⟩
    | with_reducible refine ⟨pk2, ?_⟩
    | with_reducible refine ⟨pk3, ?_⟩
    | with_reducible refine ⟨pk4, ?_⟩
    | with_reducible refine ⟨pk5, ?_⟩
    | with_reducible refine ⟨pk6, ?_⟩
    | with_reducible refine ⟨trivial, ?_⟩
    | with_reducible refine ⟨fun _ => trivial, ?_⟩
    | with_reducible refine ⟨rfl, ?_⟩
    | with_reducible refine every_i (fun hd => ?_)
    | with_reducible refine everyN_i (fun k hk => ?_)
    | with_reducible refine everyD_i (fun d hd => ?_)
    | with_reducible refine fork_t (by assumption) ?_
    | with_reducible refine fork_f (by assumption) ?_
    | refine fork_t rfl ?_
    | refine fork_f rfl ?_
    | with_reducible refine fork_i (fun h => ?_) (fun h => ?_)
    | with_reducible refine both_i ?_ ?_
    | ((with_reducible refine alike_i ?_); exact ⟨rfl, rfl, rfl⟩)
    | ((with_reducible refine fin_i ?_); (conv => whnf); refine ⟨rfl, ?_⟩)
    | refine ⟨hp, ?_⟩
    | refine ⟨of_decide_eq_true rfl, ?_⟩
    | refine ⟨fun _ => of_decide_eq_true rfl, ?_⟩
    | ((with_reducible refine ⟨?_, ?_⟩); (focus (intros; simp_all; done)))
    | ((with_reducible refine ⟨?_, ?_⟩); (focus (intros; omega)))) <;> (try (conv => whnf)))
  all_goals ((with_reducible refine leaf_i ?_); (conv => whnf))
  repeat' ((with_reducible refine And.intro ?_ ?_) <;> (try (conv => whnf)))
  all_goals (try (first | with_reducible rfl | exact True.intro | rfl | exact id | exact fun h => h | exact fun _ => rfl))
  all_goals first | rfl | trace_state
def k_depth1 : Sig := .arg shI fun i => .arg (shRp (shR tN)) fun gg => .arg (shRp shI) fun fed => .done { pre := 0 ≤ i ∧ i < (gg.length : Int), res := B (otherB gg fed i) }
set_option maxHeartbeats 4000000 in
theorem c_depth1 : FnOk Try.prog 43 k_depth1.con := by
  refine fnOkS mixed tys_ok (cs := []) trivial Try.func43 rfl (by kernel_rfl) Try.ntmps43 _ (h := ?_)
  intro i gg fed
  refine ⟨rfl, fun hp => ?_⟩
  conv => whnf
  repeat' ((first
    | with_reducible refine ⟨fun h => h, ?_⟩
    | with_reducible refine ⟨pk1, ?_⟩
    | with_reducible refine ⟨pk2, ?_⟩
    | with_reducible refine ⟨pk3, ?_⟩
    | with_reducible refine ⟨pk4, ?_⟩
    | with_reducible refine ⟨pk5, ?_⟩
    | with_reducible refine ⟨pk6, ?_⟩
    | with_reducible refine ⟨trivial, ?_⟩
    | with_reducible refine ⟨fun _ => trivial, ?_⟩
    | with_reducible refine ⟨rfl, ?_⟩
    | with_reducible refine every_i (fun hd => ?_)
    | with_reducible refine everyN_i (fun k hk => ?_)
    | with_reducible refine everyD_i (fun d hd => ?_)
    | with_reducible refine fork_t (by assumption) ?_
    | with_reducible refine fork_f (by assumption) ?_
    | refine fork_t rfl ?_
    | refine fork_f rfl ?_
    | with_reducible refine fork_i (fun h => ?_) (fun h => ?_)
    | with_reducible refine both_i ?_ ?_
    | ((with_reducible refine alike_i ?_); exact ⟨rfl, rfl, rfl⟩)
    | ((with_reducible refine fin_i ?_); (conv => whnf); refine ⟨rfl, ?_⟩)
    | refine ⟨hp, ?_⟩
    | refine ⟨of_decide_eq_true rfl, ?_⟩
    | refine ⟨fun _ => of_decide_eq_true rfl, ?_⟩
    | ((with_reducible refine ⟨?_, ?_⟩); (focus (intros; simp_all; done)))
    | ((with_reducible refine ⟨?_, ?_⟩); (focus (intros; omega)))) <;> (try (conv => whnf)))
  all_goals ((with_reducible refine leaf_i ?_); (conv => whnf))
  repeat' ((with_reducible refine And.intro ?_ ?_) <;> (try (conv => whnf)))
  all_goals (try (first | with_reducible rfl | exact True.intro | rfl | exact id | exact fun h => h | exact fun _ => rfl))
def k_xdepth1 : Sig := .arg (shR tI) fun l => .arg (shFn 43 (shCons (shRp (shR tN)) (shCons (shRp shI) (shNil)))) fun s => .done { pre := l.length < 4611686018427387904 ∧ ∀ x ∈ l, 0 ≤ x.1 ∧ x.1 < (s.1.length : Int), res := I (idxP ((otherB s.1 s.2.1)) 0 l) }
set_option maxHeartbeats 4000000 in
theorem c_xdepth1 : FnOk Try.prog 52 k_xdepth1.con := by
  refine fnOkS mixed tys_ok (cs := [(43, k_depth1.con)]) ⟨c_depth1, trivial⟩ Try.func52 rfl (by kernel_rfl) Try.ntmps52 _ (h := ?_)
  intro g s
  refine ⟨rfl, fun hp => ?_⟩
  obtain ⟨hp1, hp2⟩ := hp
  conv => whnf
  repeat' ((first
    | with_reducible refine ⟨fun h => h, ?_⟩
    | with_reducible refine ⟨pk1, ?_⟩
    | with_reducible refine ⟨pk2, ?_⟩
    | with_reducible refine ⟨pk3, ?_⟩
    | with_reducible refine ⟨pk4, ?_⟩
    | with_reducible refine ⟨pk5, ?_⟩
    | with_reducible refine ⟨pk6, ?_⟩
    | with_reducible refine ⟨trivial, ?_⟩
    | with_reducible refine ⟨fun _ => trivial, ?_⟩
    | with_reducible refine ⟨rfl, ?_⟩
    | with_reducible refine every_i (fun hd => ?_)
    | with_reducible refine everyN_i (fun k hk => ?_)
    | with_reducible refine everyD_i (fun d hd => ?_)
    | with_reducible refine fork_t (by assumption) ?_
    | with_reducible refine fork_f (by assumption) ?_
    | refine fork_t rfl ?_
    | refine fork_f rfl ?_
    | with_reducible refine fork_i (fun h => ?_) (fun h => ?_)
    | with_reducible refine both_i ?_ ?_
    | ((with_reducible refine alike_i ?_); exact ⟨rfl, rfl, rfl⟩)
    | ((with_reducible refine fin_i ?_); (conv => whnf); refine ⟨rfl, ?_⟩)
    | refine ⟨of_decide_eq_true rfl, ?_⟩
    | refine ⟨fun _ => of_decide_eq_true rfl, ?_⟩
    | ((with_reducible refine ⟨?_, ?_⟩); (focus (intros; simp_all; done)))
    | ((with_reducible refine ⟨?_, ?_⟩); (focus (intros; omega)))) <;> (try (conv => whnf)))
  refine looped (σ := Nat) (fun j => [(8, I j)]) (fun _ => []) (fun j => j ≤ g.length ∧ idxP ((otherB s.1 s.2.1)) j (g.drop j) = idxP ((otherB s.1 s.2.1)) 0 g) (fun j => g.length - j) 0 ⟨Nat.zero_le _, rfl⟩ ?_ ?_
  · conv => whnf
    refine ⟨rfl, leaf_i ?_⟩
    repeat' ((with_reducible refine And.intro ?_ ?_) <;> (try (conv => whnf)))
    all_goals (try (first | with_reducible rfl | exact True.intro | rfl | exact id | exact fun h => h | exact fun _ => rfl))
  · rintro j ⟨hj, hl⟩
    dsimp only at hj hl ⊢
    have hpre : decide ((j : Int) < (g.length : Int)) = true → 0 ≤ (getE tI g j).1 ∧ (getE tI g j).1 < (s.1.length : Int) := fun h => hp2 _ (getE_mem g (lt_t h))
    conv => whnf
    repeat' ((first
      | with_reducible refine ⟨fun h => h, ?_⟩
      | with_reducible refine ⟨pk1, ?_⟩
      | with_reducible refine ⟨pk2, ?_⟩
      | with_reducible refine ⟨pk3, ?_⟩
      | with_reducible refine ⟨pk4, ?_⟩
      | with_reducible refine ⟨pk5, ?_⟩
      | with_reducible refine ⟨pk6, ?_⟩
      | with_reducible refine ⟨trivial, ?_⟩
      | with_reducible refine ⟨fun _ => trivial, ?_⟩
      | with_reducible refine ⟨rfl, ?_⟩
      | with_reducible refine every_i (fun hd => ?_)
      | with_reducible refine everyN_i (fun k hk => ?_)
      | with_reducible refine everyD_i (fun d hd => ?_)
      | with_reducible refine fork_t (by assumption) ?_
      | with_reducible refine fork_f (by assumption) ?_
      | refine fork_t rfl ?_
      | refine fork_f rfl ?_
      | with_reducible refine fork_i (fun h => ?_) (fun h => ?_)
      | with_reducible refine both_i ?_ ?_
      | ((with_reducible refine alike_i ?_); exact ⟨rfl, rfl, rfl⟩)
      | ((with_reducible refine fin_i ?_); (conv => whnf); refine ⟨rfl, ?_⟩)
      | refine ⟨hpre (by assumption), ?_⟩
      | refine ⟨of_decide_eq_true rfl, ?_⟩
      | refine ⟨fun _ => of_decide_eq_true rfl, ?_⟩
      | ((with_reducible refine ⟨?_, ?_⟩); (focus (intros; simp_all; done)))
      | ((with_reducible refine ⟨?_, ?_⟩); (focus (intros; omega)))) <;> (try (conv => whnf)))
    · rename_i hj'
      have hj' := lt_t hj'
      have h : (otherB s.1 s.2.1) (getE tI g j).1 = true := h
      rw [drop_get _ hj', idxP, if_pos h] at hl
      all_goals ((with_reducible refine leaf_i ?_); (conv => whnf))
      repeat' ((with_reducible refine And.intro ?_ ?_) <;> (try (conv => whnf)))
      all_goals (try (first | with_reducible rfl | exact True.intro | rfl | exact id | exact fun h => h | exact fun _ => rfl))
      all_goals first | exact hl | rfl
    · rename_i hj'
      have hj' := lt_t hj'
      have h' : ¬ (otherB s.1 s.2.1) (getE tI g j).1 = true := fun hh => Bool.noConfusion (h.symm.trans hh)
      rw [drop_get _ hj', idxP, if_neg h'] at hl
      refine next_i (j + 1) ⟨hj', hl⟩ (by omega) rfl rfl ?_
      conv => whnf
      refine ⟨rfl, leaf_i ?_⟩
      repeat' ((with_reducible refine And.intro ?_ ?_) <;> (try (conv => whnf)))
      all_goals (try (first | with_reducible rfl | exact True.intro | rfl | exact id | exact fun h => h | exact fun _ => rfl))
      all_goals first | exact wrapS (Nat.lt_trans hj' hp1) | rfl
    · have hj' := lt_f h
      rw [List.drop_eq_nil_of_le hj', idxP] at hl
      all_goals ((with_reducible refine leaf_i ?_); (conv => whnf))
      repeat' ((with_reducible refine And.intro ?_ ?_) <;> (try (conv => whnf)))
      all_goals (try (first | with_reducible rfl | exact True.intro | rfl | exact id | exact fun h => h | exact fun _ => rfl))
      all_goals first | exact hl | rfl
def k_hdepth1 : Sig := .arg (shR tI) fun l => .arg (shFn 43 (shCons (shRp (shR tN)) (shCons (shRp shI) (shNil)))) fun s => .done { pre := l.length < 4611686018427387904 ∧ ∀ x ∈ l, 0 ≤ x.1 ∧ x.1 < (s.1.length : Int), res := B (hasP ((otherB s.1 s.2.1)) l) }
set_option maxHeartbeats 4000000 in
theorem c_hdepth1 : FnOk Try.prog 42 k_hdepth1.con := by
  refine fnOkS mixed tys_ok (cs := [(52, k_xdepth1.con)]) ⟨c_xdepth1, trivial⟩ Try.func42 rfl (by kernel_rfl) Try.ntmps42 _ (h := ?_)
  intro g s
  refine ⟨rfl, fun hp => ?_⟩
  conv => whnf
  repeat' ((first
    | with_reducible refine ⟨fun h => h, ?_⟩
    | with_reducible refine ⟨pk1, ?_⟩
    | with_reducible refine ⟨pk2, ?_⟩
    | with_reducible refine ⟨pk3, ?_⟩
    | with_reducible refine ⟨pk4, ?_⟩
    | with_reducible refine ⟨pk5, ?_⟩
    | with_reducible refine ⟨pk6, ?_⟩
    | with_reducible refine ⟨trivial, ?_⟩
    | with_reducible refine ⟨fun _ => trivial, ?_⟩
    | with_reducible refine ⟨rfl, ?_⟩
    | with_reducible refine every_i (fun hd => ?_)
    | with_reducible refine everyN_i (fun k hk => ?_)
    | with_reducible refine everyD_i (fun d hd => ?_)
    | with_reducible refine fork_t (by assumption) ?_
    | with_reducible refine fork_f (by assumption) ?_
    | refine fork_t rfl ?_
    | refine fork_f rfl ?_
    | with_reducible refine fork_i (fun h => ?_) (fun h => ?_)
    | with_reducible refine both_i ?_ ?_
    | ((with_reducible refine alike_i ?_); exact ⟨rfl, rfl, rfl⟩)
    | ((with_reducible refine fin_i ?_); (conv => whnf); refine ⟨rfl, ?_⟩)
    | refine ⟨hp, ?_⟩
    | refine ⟨of_decide_eq_true rfl, ?_⟩
    | refine ⟨fun _ => of_decide_eq_true rfl, ?_⟩
    | ((with_reducible refine ⟨?_, ?_⟩); (focus (intros; simp_all; done)))
    | ((with_reducible refine ⟨?_, ?_⟩); (focus (intros; omega)))) <;> (try (conv => whnf)))
  all_goals ((with_reducible refine leaf_i ?_); (conv => whnf))
  repeat' ((with_reducible refine And.intro ?_ ?_) <;> (try (conv => whnf)))
  all_goals (try (first | with_reducible rfl | exact True.intro | rfl | exact id | exact fun h => h | exact fun _ => rfl))
  all_goals first | rfl | trace_state
def k_order1 : Sig := .arg shI fun i => .arg (shRp (shR tB)) fun th => .done { pre := 0 ≤ i ∧ i < (th.length : Int), res := B (missB th i) }
set_option maxHeartbeats 4000000 in
theorem c_order1 : FnOk Try.prog 51 k_order1.con := by
  refine fnOkS mixed tys_ok (cs := []) trivial Try.func51 rfl (by kernel_rfl) Try.ntmps51 _ (h := ?_)
  intro i th
  refine ⟨rfl, fun hp => ?_⟩
  conv => whnf
  repeat' ((first
    | with_reducible refine ⟨fun h => h, ?_⟩
    | with_reducible refine ⟨pk1, ?_⟩
    | with_reducible refine ⟨pk2, ?_⟩
    | with_reducible refine ⟨pk3, ?_⟩
    | with_reducible refine ⟨pk4, ?_⟩
    | with_reducible refine ⟨pk5, ?_⟩
    | with_reducible refine ⟨pk6, ?_⟩
    | with_reducible refine ⟨trivial, ?_⟩
    | with_reducible refine ⟨fun _ => trivial, ?_⟩
    | with_reducible refine ⟨rfl, ?_⟩
    | with_reducible refine every_i (fun hd => ?_)
    | with_reducible refine everyN_i (fun k hk => ?_)
    | with_reducible refine everyD_i (fun d hd => ?_)
    | with_reducible refine fork_t (by assumption) ?_
    | with_reducible refine fork_f (by assumption) ?_
    | refine fork_t rfl ?_
    | refine fork_f rfl ?_
    | with_reducible refine fork_i (fun h => ?_) (fun h => ?_)
    | with_reducible refine both_i ?_ ?_
    | ((with_reducible refine alike_i ?_); exact ⟨rfl, rfl, rfl⟩)
    | ((with_reducible refine fin_i ?_); (conv => whnf); refine ⟨rfl, ?_⟩)
    | refine ⟨hp, ?_⟩
    | refine ⟨of_decide_eq_true rfl, ?_⟩
    | refine ⟨fun _ => of_decide_eq_true rfl, ?_⟩
    | ((with_reducible refine ⟨?_, ?_⟩); (focus (intros; simp_all; done)))
    | ((with_reducible refine ⟨?_, ?_⟩); (focus (intros; omega)))) <;> (try (conv => whnf)))
  all_goals ((with_reducible refine leaf_i ?_); (conv => whnf))
  repeat' ((with_reducible refine And.intro ?_ ?_) <;> (try (conv => whnf)))
  all_goals (try (first | with_reducible rfl | exact True.intro | rfl | exact id | exact fun h => h | exact fun _ => rfl))
def k_xorder1 : Sig := .arg (shR tI) fun l => .arg (shFn 51 (shCons (shRp (shR tB)) (shNil))) fun s => .done { pre := l.length < 4611686018427387904 ∧ ∀ x ∈ l, 0 ≤ x.1 ∧ x.1 < (s.1.length : Int), res := I (idxP ((missB s.1)) 0 l) }
set_option maxHeartbeats 4000000 in
theorem c_xorder1 : FnOk Try.prog 52 k_xorder1.con := by
  refine fnOkS mixed tys_ok (cs := [(51, k_order1.con)]) ⟨c_order1, trivial⟩ Try.func52 rfl (by kernel_rfl) Try.ntmps52 _ (h := ?_)
  intro g s
  refine ⟨rfl, fun hp => ?_⟩
  obtain ⟨hp1, hp2⟩ := hp
  conv => whnf
  repeat' ((first
    | with_reducible refine ⟨fun h => h, ?_⟩
    | with_reducible refine ⟨pk1, ?_⟩
    | with_reducible refine ⟨pk2, ?_⟩
    | with_reducible refine ⟨pk3, ?_⟩
    | with_reducible refine ⟨pk4, ?_⟩
    | with_reducible refine ⟨pk5, ?_⟩
    | with_reducible refine ⟨pk6, ?_⟩
    | with_reducible refine ⟨trivial, ?_⟩
    | with_reducible refine ⟨fun _ => trivial, ?_⟩
    | with_reducible refine ⟨rfl, ?_⟩
    | with_reducible refine every_i (fun hd => ?_)
    | with_reducible refine everyN_i (fun k hk => ?_)
    | with_reducible refine everyD_i (fun d hd => ?_)
    | with_reducible refine fork_t (by assumption) ?_
    | with_reducible refine fork_f (by assumption) ?_
    | refine fork_t rfl ?_
    | refine fork_f rfl ?_
    | with_reducible refine fork_i (fun h => ?_) (fun h => ?_)
    | with_reducible refine both_i ?_ ?_
    | ((with_reducible refine alike_i ?_); exact ⟨rfl, rfl, rfl⟩)
    | ((with_reducible refine fin_i ?_); (conv => whnf); refine ⟨rfl, ?_⟩)
    | refine ⟨of_decide_eq_true rfl, ?_⟩
    | refine ⟨fun _ => of_decide_eq_true rfl, ?_⟩
    | ((with_reducible refine ⟨?_, ?_⟩); (focus (intros; simp_all; done)))
    | ((with_reducible refine ⟨?_, ?_⟩); (focus (intros; omega)))) <;> (try (conv => whnf)))
  refine looped (σ := Nat) (fun j => [(8, I j)]) (fun _ => []) (fun j => j ≤ g.length ∧ idxP ((missB s.1)) j (g.drop j) = idxP ((missB s.1)) 0 g) (fun j => g.length - j) 0 ⟨Nat.zero_le _, rfl⟩ ?_ ?_
  · conv => whnf
    refine ⟨rfl, leaf_i ?_⟩
    repeat' ((with_reducible refine And.intro ?_ ?_) <;> (try (conv => whnf)))
    all_goals (try (first | with_reducible rfl | exact True.intro | rfl | exact id | exact fun h => h | exact fun _ => rfl))
  · rintro j ⟨hj, hl⟩
    dsimp only at hj hl ⊢
    have hpre : decide ((j : Int) < (g.length : Int)) = true → 0 ≤ (getE tI g j).1 ∧ (getE tI g j).1 < (s.1.length : Int) := fun h => hp2 _ (getE_mem g (lt_t h))
    conv => whnf
    repeat' ((first
      | with_reducible refine ⟨fun h => h, ?_⟩
      | with_reducible refine ⟨pk1, ?_⟩
      | with_reducible refine ⟨pk2, ?_⟩
      | with_reducible refine ⟨pk3, ?_⟩
      | with_reducible refine ⟨pk4, ?_⟩
      | with_reducible refine ⟨pk5, ?_⟩
      | with_reducible refine ⟨pk6, ?_⟩
      | with_reducible refine ⟨trivial, ?_⟩
      | with_reducible refine ⟨fun _ => trivial, ?_⟩
      | with_reducible refine ⟨rfl, ?_⟩
      | with_reducible refine every_i (fun hd => ?_)
      | with_reducible refine everyN_i (fun k hk => ?_)
      | with_reducible refine everyD_i (fun d hd => ?_)
      | with_reducible refine fork_t (by assumption) ?_
      | with_reducible refine fork_f (by assumption) ?_
      | refine fork_t rfl ?_
      | refine fork_f rfl ?_
      | with_reducible refine fork_i (fun h => ?_) (fun h => ?_)
      | with_reducible refine both_i ?_ ?_
      | ((with_reducible refine alike_i ?_); exact ⟨rfl, rfl, rfl⟩)
      | ((with_reducible refine fin_i ?_); (conv => whnf); refine ⟨rfl, ?_⟩)
      | refine ⟨hpre (by assumption), ?_⟩
      | refine ⟨of_decide_eq_true rfl, ?_⟩
      | refine ⟨fun _ => of_decide_eq_true rfl, ?_⟩
      | ((with_reducible refine ⟨?_, ?_⟩); (focus (intros; simp_all; done)))
      | ((with_reducible refine ⟨?_, ?_⟩); (focus (intros; omega)))) <;> (try (conv => whnf)))
    · rename_i hj'
      have hj' := lt_t hj'
      have h : (missB s.1) (getE tI g j).1 = true := h
      rw [drop_get _ hj', idxP, if_pos h] at hl
      all_goals ((with_reducible refine leaf_i ?_); (conv => whnf))
      repeat' ((with_reducible refine And.intro ?_ ?_) <;> (try (conv => whnf)))
      all_goals (try (first | with_reducible rfl | exact True.intro | rfl | exact id | exact fun h => h | exact fun _ => rfl))
      all_goals first | exact hl | rfl
    · rename_i hj'
      have hj' := lt_t hj'
      have h' : ¬ (missB s.1) (getE tI g j).1 = true := fun hh => Bool.noConfusion (h.symm.trans hh)
      rw [drop_get _ hj', idxP, if_neg h'] at hl
      refine next_i (j + 1) ⟨hj', hl⟩ (by omega) rfl rfl ?_
      conv => whnf
      refine ⟨rfl, leaf_i ?_⟩
      repeat' ((with_reducible refine And.intro ?_ ?_) <;> (try (conv => whnf)))
      all_goals (try (first | with_reducible rfl | exact True.intro | rfl | exact id | exact fun h => h | exact fun _ => rfl))
      all_goals first | exact wrapS (Nat.lt_trans hj' hp1) | rfl
    · have hj' := lt_f h
      rw [List.drop_eq_nil_of_le hj', idxP] at hl
      all_goals ((with_reducible refine leaf_i ?_); (conv => whnf))
      repeat' ((with_reducible refine And.intro ?_ ?_) <;> (try (conv => whnf)))
      all_goals (try (first | with_reducible rfl | exact True.intro | rfl | exact id | exact fun h => h | exact fun _ => rfl))
      all_goals first | exact hl | rfl
def k_horder1 : Sig := .arg (shR tI) fun l => .arg (shFn 51 (shCons (shRp (shR tB)) (shNil))) fun s => .done { pre := l.length < 4611686018427387904 ∧ ∀ x ∈ l, 0 ≤ x.1 ∧ x.1 < (s.1.length : Int), res := B (hasP ((missB s.1)) l) }
set_option maxHeartbeats 4000000 in
theorem c_horder1 : FnOk Try.prog 42 k_horder1.con := by
  refine fnOkS mixed tys_ok (cs := [(52, k_xorder1.con)]) ⟨c_xorder1, trivial⟩ Try.func42 rfl (by kernel_rfl) Try.ntmps42 _ (h := ?_)
  intro g s
  refine ⟨rfl, fun hp => ?_⟩
  conv => whnf
  repeat' ((first
    | with_reducible refine ⟨fun h => h, ?_⟩
    | with_reducible refine ⟨pk1, ?_⟩
    | with_reducible refine ⟨pk2, ?_⟩
    | with_reducible refine ⟨pk3, ?_⟩
    | with_reducible refine ⟨pk4, ?_⟩
    | with_reducible refine ⟨pk5, ?_⟩
    | with_reducible refine ⟨pk6, ?_⟩
    | with_reducible refine ⟨trivial, ?_⟩
    | with_reducible refine ⟨fun _ => trivial, ?_⟩
    | with_reducible refine ⟨rfl, ?_⟩
    | with_reducible refine every_i (fun hd => ?_)
    | with_reducible refine everyN_i (fun k hk => ?_)
    | with_reducible refine everyD_i (fun d hd => ?_)
    | with_reducible refine fork_t (by assumption) ?_
    | with_reducible refine fork_f (by assumption) ?_
    | refine fork_t rfl ?_
    | refine fork_f rfl ?_
    | with_reducible refine fork_i (fun h => ?_) (fun h => ?_)
    | with_reducible refine both_i ?_ ?_
    | ((with_reducible refine alike_i ?_); exact ⟨rfl, rfl, rfl⟩)
    | ((with_reducible refine fin_i ?_); (conv => whnf); refine ⟨rfl, ?_⟩)
    | refine ⟨hp, ?_⟩
    | refine ⟨of_decide_eq_true rfl, ?_⟩
    | refine ⟨fun _ => of_decide_eq_true rfl, ?_⟩
    | ((with_reducible refine ⟨?_, ?_⟩); (focus (intros; simp_all; done)))
    | ((with_reducible refine ⟨?_, ?_⟩); (focus (intros; omega)))) <;> (try (conv => whnf)))
  all_goals ((with_reducible refine leaf_i ?_); (conv => whnf))
  repeat' ((with_reducible refine And.intro ?_ ?_) <;> (try (conv => whnf)))
  all_goals (try (first | with_reducible rfl | exact True.intro | rfl | exact id | exact fun h => h | exact fun _ => rfl))
  all_goals first | rfl | trace_state
def k_stuck1 : Sig := .arg shI fun i => .arg (shRp (shR tN)) fun gg => .arg (shRp shI) fun least => .arg (shRp (shR tBB)) fun to => .arg (shRp shI) fun at_ => .done { pre := backP gg to at_ i, res := B (backB gg least to at_ i) }
set_option maxHeartbeats 4000000 in
theorem c_stuck1 : FnOk Try.prog 46 k_stuck1.con := by
  refine fnOkS mixed tys_ok (cs := []) trivial Try.func46 rfl (by kernel_rfl) Try.ntmps46 _ (h := ?_)
  intro i gg least to at_
  refine ⟨rfl, fun hp => ?_⟩
  obtain ⟨hp1, hp2, hp3, hp4, hp5, hp6, hp7⟩ := hp
  conv => whnf
  repeat' ((first
    | with_reducible refine ⟨fun h => h, ?_⟩
    | with_reducible refine ⟨pk1, ?_⟩
    | with_reducible refine ⟨pk2, ?_⟩
    | with_reducible refine ⟨pk3, ?_⟩
    | with_reducible refine ⟨pk4, ?_⟩
    | with_reducible refine ⟨pk5, ?_⟩
    | with_reducible refine ⟨pk6, ?_⟩
    | with_reducible refine ⟨trivial, ?_⟩
    | with_reducible refine ⟨fun _ => trivial, ?_⟩
    | with_reducible refine ⟨rfl, ?_⟩
    | with_reducible refine every_i (fun hd => ?_)
    | with_reducible refine everyN_i (fun k hk => ?_)
    | with_reducible refine everyD_i (fun d hd => ?_)
    | with_reducible refine fork_t (by assumption) ?_
    | with_reducible refine fork_f (by assumption) ?_
    | refine fork_t rfl ?_
    | refine fork_f rfl ?_
    | with_reducible refine fork_i (fun h => ?_) (fun h => ?_)
    | with_reducible refine both_i ?_ ?_
    | ((with_reducible refine alike_i ?_); exact ⟨rfl, rfl, rfl⟩)
    | ((with_reducible refine fin_i ?_); (conv => whnf); refine ⟨rfl, ?_⟩)
    | refine ⟨⟨hp1, hp2⟩, ?_⟩
    | refine ⟨fun _ => hp3, ?_⟩
    | refine ⟨fun _ => hp4, ?_⟩
    | refine ⟨fun _ => hp5, ?_⟩
    | refine ⟨fun _ => hp6, ?_⟩
    | refine ⟨of_decide_eq_true rfl, ?_⟩
    | refine ⟨fun _ => of_decide_eq_true rfl, ?_⟩
    | ((with_reducible refine ⟨?_, ?_⟩); (focus (intros; simp_all; done)))
    | ((with_reducible refine ⟨?_, ?_⟩); (focus (intros; omega)))) <;> (try (conv => whnf)))
  all_goals ((with_reducible refine leaf_i ?_); (conv => whnf))
  repeat' ((with_reducible refine And.intro ?_ ?_) <;> (try (conv => whnf)))
  all_goals (try (first | with_reducible rfl | exact True.intro | rfl | exact id | exact fun h => h | exact fun _ => rfl))
def k_xstuck1 : Sig := .arg (shR tI) fun l => .arg (shFn 46 (shCons (shRp (shR tN)) (shCons (shRp shI) (shCons (shRp (shR tBB)) (shCons (shRp shI) (shNil)))))) fun s => .done { pre := l.length < 4611686018427387904 ∧ ∀ x ∈ l, backP s.1 s.2.2.1 s.2.2.2.1 x.1, res := I (idxP ((backB s.1 s.2.1 s.2.2.1 s.2.2.2.1)) 0 l) }
set_option maxHeartbeats 4000000 in
theorem c_xstuck1 : FnOk Try.prog 52 k_xstuck1.con := by
  refine fnOkS mixed tys_ok (cs := [(46, k_stuck1.con)]) ⟨c_stuck1, trivial⟩ Try.func52 rfl (by kernel_rfl) Try.ntmps52 _ (h := ?_)
  intro g s
  refine ⟨rfl, fun hp => ?_⟩
  obtain ⟨hp1, hp2⟩ := hp
  conv => whnf
  repeat' ((first
    | with_reducible refine ⟨fun h => h, ?_⟩
    | with_reducible refine ⟨pk1, ?_⟩
    | with_reducible refine ⟨pk2, ?_⟩
    | with_reducible refine ⟨pk3, ?_⟩
    | with_reducible refine ⟨pk4, ?_⟩
    | with_reducible refine ⟨pk5, ?_⟩
    | with_reducible refine ⟨pk6, ?_⟩
    | with_reducible refine ⟨trivial, ?_⟩
    | with_reducible refine ⟨fun _ => trivial, ?_⟩
    | with_reducible refine ⟨rfl, ?_⟩
    | with_reducible refine every_i (fun hd => ?_)
    | with_reducible refine everyN_i (fun k hk => ?_)
    | with_reducible refine everyD_i (fun d hd => ?_)
    | with_reducible refine fork_t (by assumption) ?_
    | with_reducible refine fork_f (by assumption) ?_
    | refine fork_t rfl ?_
    | refine fork_f rfl ?_
    | with_reducible refine fork_i (fun h => ?_) (fun h => ?_)
    | with_reducible refine both_i ?_ ?_
    | ((with_reducible refine alike_i ?_); exact ⟨rfl, rfl, rfl⟩)
    | ((with_reducible refine fin_i ?_); (conv => whnf); refine ⟨rfl, ?_⟩)
    | refine ⟨of_decide_eq_true rfl, ?_⟩
    | refine ⟨fun _ => of_decide_eq_true rfl, ?_⟩
    | ((with_reducible refine ⟨?_, ?_⟩); (focus (intros; simp_all; done)))
    | ((with_reducible refine ⟨?_, ?_⟩); (focus (intros; omega)))) <;> (try (conv => whnf)))
  refine looped (σ := Nat) (fun j => [(8, I j)]) (fun _ => []) (fun j => j ≤ g.length ∧ idxP ((backB s.1 s.2.1 s.2.2.1 s.2.2.2.1)) j (g.drop j) = idxP ((backB s.1 s.2.1 s.2.2.1 s.2.2.2.1)) 0 g) (fun j => g.length - j) 0 ⟨Nat.zero_le _, rfl⟩ ?_ ?_
  · conv => whnf
    refine ⟨rfl, leaf_i ?_⟩
    repeat' ((with_reducible refine And.intro ?_ ?_) <;> (try (conv => whnf)))
    all_goals (try (first | with_reducible rfl | exact True.intro | rfl | exact id | exact fun h => h | exact fun _ => rfl))
  · rintro j ⟨hj, hl⟩
    dsimp only at hj hl ⊢
    have hpre : decide ((j : Int) < (g.length : Int)) = true → backP s.1 s.2.2.1 s.2.2.2.1 (getE tI g j).1 := fun h => hp2 _ (getE_mem g (lt_t h))
    conv => whnf
    repeat' ((first
      | with_reducible refine ⟨fun h => h, ?_⟩
      | with_reducible refine ⟨pk1, ?_⟩
      | with_reducible refine ⟨pk2, ?_⟩
      | with_reducible refine ⟨pk3, ?_⟩
      | with_reducible refine ⟨pk4, ?_⟩
      | with_reducible refine ⟨pk5, ?_⟩
      | with_reducible refine ⟨pk6, ?_⟩
      | with_reducible refine ⟨trivial, ?_⟩
      | with_reducible refine ⟨fun _ => trivial, ?_⟩
      | with_reducible refine ⟨rfl, ?_⟩
      | with_reducible refine every_i (fun hd => ?_)
      | with_reducible refine everyN_i (fun k hk => ?_)
      | with_reducible refine everyD_i (fun d hd => ?_)
      | with_reducible refine fork_t (by assumption) ?_
      | with_reducible refine fork_f (by assumption) ?_
      | refine fork_t rfl ?_
      | refine fork_f rfl ?_
      | with_reducible refine fork_i (fun h => ?_) (fun h => ?_)
      | with_reducible refine both_i ?_ ?_
      | ((with_reducible refine alike_i ?_); exact ⟨rfl, rfl, rfl⟩)
      | ((with_reducible refine fin_i ?_); (conv => whnf); refine ⟨rfl, ?_⟩)
      | refine ⟨hpre (by assumption), ?_⟩
      | refine ⟨of_decide_eq_true rfl, ?_⟩
      | refine ⟨fun _ => of_decide_eq_true rfl, ?_⟩
      | ((with_reducible refine ⟨?_, ?_⟩); (focus (intros; simp_all; done)))
      | ((with_reducible refine ⟨?_, ?_⟩); (focus (intros; omega)))) <;> (try (conv => whnf)))
    · rename_i hj'
      have hj' := lt_t hj'
      have h : (backB s.1 s.2.1 s.2.2.1 s.2.2.2.1) (getE tI g j).1 = true := h
      rw [drop_get _ hj', idxP, if_pos h] at hl
      all_goals ((with_reducible refine leaf_i ?_); (conv => whnf))
      repeat' ((with_reducible refine And.intro ?_ ?_) <;> (try (conv => whnf)))
      all_goals (try (first | with_reducible rfl | exact True.intro | rfl | exact id | exact fun h => h | exact fun _ => rfl))
      all_goals first | exact hl | rfl
    · rename_i hj'
      have hj' := lt_t hj'
      have h' : ¬ (backB s.1 s.2.1 s.2.2.1 s.2.2.2.1) (getE tI g j).1 = true := fun hh => Bool.noConfusion (h.symm.trans hh)
      rw [drop_get _ hj', idxP, if_neg h'] at hl
      refine next_i (j + 1) ⟨hj', hl⟩ (by omega) rfl rfl ?_
      conv => whnf
      refine ⟨rfl, leaf_i ?_⟩
      repeat' ((with_reducible refine And.intro ?_ ?_) <;> (try (conv => whnf)))
      all_goals (try (first | with_reducible rfl | exact True.intro | rfl | exact id | exact fun h => h | exact fun _ => rfl))
      all_goals first | exact wrapS (Nat.lt_trans hj' hp1) | rfl
    · have hj' := lt_f h
      rw [List.drop_eq_nil_of_le hj', idxP] at hl
      all_goals ((with_reducible refine leaf_i ?_); (conv => whnf))
      repeat' ((with_reducible refine And.intro ?_ ?_) <;> (try (conv => whnf)))
      all_goals (try (first | with_reducible rfl | exact True.intro | rfl | exact id | exact fun h => h | exact fun _ => rfl))
      all_goals first | exact hl | rfl
def k_hstuck1 : Sig := .arg (shR tI) fun l => .arg (shFn 46 (shCons (shRp (shR tN)) (shCons (shRp shI) (shCons (shRp (shR tBB)) (shCons (shRp shI) (shNil)))))) fun s => .done { pre := l.length < 4611686018427387904 ∧ ∀ x ∈ l, backP s.1 s.2.2.1 s.2.2.2.1 x.1, res := B (hasP ((backB s.1 s.2.1 s.2.2.1 s.2.2.2.1)) l) }
set_option maxHeartbeats 4000000 in
theorem c_hstuck1 : FnOk Try.prog 42 k_hstuck1.con := by
  refine fnOkS mixed tys_ok (cs := [(52, k_xstuck1.con)]) ⟨c_xstuck1, trivial⟩ Try.func42 rfl (by kernel_rfl) Try.ntmps42 _ (h := ?_)
  intro g s
  refine ⟨rfl, fun hp => ?_⟩
  conv => whnf
  repeat' ((first
    | with_reducible refine ⟨fun h => h, ?_⟩
    | with_reducible refine ⟨pk1, ?_⟩
    | with_reducible refine ⟨pk2, ?_⟩
    | with_reducible refine ⟨pk3, ?_⟩
    | with_reducible refine ⟨pk4, ?_⟩
    | with_reducible refine ⟨pk5, ?_⟩
    | with_reducible refine ⟨pk6, ?_⟩
    | with_reducible refine ⟨trivial, ?_⟩
    | with_reducible refine ⟨fun _ => trivial, ?_⟩
    | with_reducible refine ⟨rfl, ?_⟩
    | with_reducible refine every_i (fun hd => ?_)
    | with_reducible refine everyN_i (fun k hk => ?_)
    | with_reducible refine everyD_i (fun d hd => ?_)
    | with_reducible refine fork_t (by assumption) ?_
    | with_reducible refine fork_f (by assumption) ?_
    | refine fork_t rfl ?_
    | refine fork_f rfl ?_
    | with_reducible refine fork_i (fun h => ?_) (fun h => ?_)
    | with_reducible refine both_i ?_ ?_
    | ((with_reducible refine alike_i ?_); exact ⟨rfl, rfl, rfl⟩)
    | ((with_reducible refine fin_i ?_); (conv => whnf); refine ⟨rfl, ?_⟩)
    | refine ⟨hp, ?_⟩
    | refine ⟨of_decide_eq_true rfl, ?_⟩
    | refine ⟨fun _ => of_decide_eq_true rfl, ?_⟩
    | ((with_reducible refine ⟨?_, ?_⟩); (focus (intros; simp_all; done)))
    | ((with_reducible refine ⟨?_, ?_⟩); (focus (intros; omega)))) <;> (try (conv => whnf)))
  all_goals ((with_reducible refine leaf_i ?_); (conv => whnf))
  repeat' ((with_reducible refine And.intro ?_ ?_) <;> (try (conv => whnf)))
  all_goals (try (first | with_reducible rfl | exact True.intro | rfl | exact id | exact fun h => h | exact fun _ => rfl))
  all_goals first | rfl | trace_state
end Go.Proofs.Ytbgcgokikekmoaa
