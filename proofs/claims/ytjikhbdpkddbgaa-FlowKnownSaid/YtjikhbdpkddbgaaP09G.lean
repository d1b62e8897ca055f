/- Reading graphs in plain Lean: the reader by a state, the reader by lists, the document's reader. No program in sight. -/
import Derived.Test.YtjikhbdpkddbgaaP09S
import Derived.Laws.BitsLemmas
import Derived.Laws.Bits64
namespace Go.Proofs.Ytjikhbdpkddbgaa
set_option linter.unusedVariables false
set_option linter.unusedSimpArgs false
open Go Go.Proofs.Ytjikhbdpkddbgaa.Eng

/-- Bytes, the highest first, as a number. -/
def stepB (x c : Int) : Int := IntKind.i64.wrap ((BitVec.ofInt IntKind.i64.bits (IntKind.i64.wrap (x * 2 ^ min (Int.toNat 8) IntKind.i64.bits)) ||| BitVec.ofInt IntKind.i64.bits (IntKind.i64.wrap c)).toNat : Int)
def numB : Int → List (El tU) → Int
  | x, [] => x
  | x, c :: r => numB (stepB x c.1) r
def takeOk (ok : Bool) (b : List (El tU)) (w : Int) : Bool := bif ok then decide ((b.length : Int) ≥ w) else false
def takeX (ok : Bool) (b : List (El tU)) (w : Int) : Int := bif takeOk ok b w then numB 0 (b.take w.toNat) else 0
def takeB (ok : Bool) (b : List (El tU)) (w : Int) : List (El tU) := bif takeOk ok b w then b.drop w.toNat else b

/-- The reader's state: has all been there, and what is left. -/
abbrev Rs := Bool × List (El tU)
def rdX (s : Rs) (w : Int) : Int := takeX s.1 s.2 w
def rdS (s : Rs) (w : Int) : Rs := (takeOk s.1 s.2 w, takeB s.1 s.2 w)
/-- The inputs of a node. -/
def insL : Nat → Rs → List (El tI) → Rs × List (El tI)
  | 0, s, l => (s, l)
  | k + 1, s, l => if s.1 = true then insL k (rdS s 1) (l ++ [(rdX s 1, ())]) else (s, l)
def hdS (s : Rs) : Rs := rdS (rdS (rdS (rdS (rdS s 1) 1) 8) 1) 1
def hdN (s : Rs) : Int := rdX (rdS (rdS (rdS (rdS s 1) 1) 8) 1) 1
def ndOf (s : Rs) (l : List (El tI)) : Nd := (IntKind.u8.wrap (rdX s 1), IntKind.u8.wrap (rdX (rdS s 1) 1), rdX (rdS (rdS s 1) 1) 8, rdX (rdS (rdS (rdS s 1) 1) 8) 1, l, ())
def nodeS (s : Rs) : Nd × Rs := (ndOf s (insL (hdN s).toNat (hdS s) []).2, (insL (hdN s).toNat (hdS s) []).1)

/-! ### Bytes in range; numbers -/
def isB (l : List (El tU)) : Prop := ∀ x ∈ l, 0 ≤ x.1 ∧ x.1 ≤ 255
theorem isB.drop {l : List (El tU)} (h : isB l) (n : Nat) : isB (l.drop n) := fun x hx => h x (List.mem_of_mem_drop hx)
theorem isB.take {l : List (El tU)} (h : isB l) (n : Nat) : isB (l.take n) := fun x hx => h x (List.mem_of_mem_take hx)
theorem isB.get {l : List (El tU)} (h : isB l) {j : Nat} (hj : j < l.length) : 0 ≤ (getE tU l j).1 ∧ (getE tU l j).1 ≤ 255 := h _ (getE_mem l hj)
theorem i64_idem (x y : Int) : IntKind.i64.wrap (IntKind.i64.wrap x * 256 + y) = IntKind.i64.wrap (x * 256 + y) := by
  simp only [IntKind.wrap_i64]; omega
theorem stepB_eq {x c : Int} (h1 : 0 ≤ c) (h2 : c ≤ 255) : stepB x c = IntKind.i64.wrap (x * 256 + c) := by
  unfold stepB
  have e1 : (x * 2 ^ min (Int.toNat 8) IntKind.i64.bits : Int) = x * 256 := by
    have : min (Int.toNat 8) IntKind.i64.bits = 8 := by decide
    rw [this]; rfl
  rw [e1]
  have hc : IntKind.i64.wrap c = c := by rw [IntKind.wrap_i64]; omega
  rw [hc]
  have hn : ((BitVec.ofInt IntKind.i64.bits (IntKind.i64.wrap (x * 256)) ||| BitVec.ofInt IntKind.i64.bits c).toNat : Int) = (x * 256 + c) % 18446744073709551616 := by
    rw [BitVec.toNat_or]
    have a1 : ((BitVec.ofInt IntKind.i64.bits (IntKind.i64.wrap (x * 256))).toNat : Int) = (x * 256) % 18446744073709551616 := by
      rw [BitVec.toNat_ofInt]
      show (((IntKind.i64.wrap (x * 256)) % 18446744073709551616).toNat : Int) = _
      rw [IntKind.wrap_i64]; omega
    have a2 : ((BitVec.ofInt IntKind.i64.bits c).toNat : Int) = c := by
      rw [BitVec.toNat_ofInt]
      show ((c % 18446744073709551616).toNat : Int) = _
      omega
    obtain ⟨m, hm⟩ : ∃ m : Nat, (BitVec.ofInt IntKind.i64.bits (IntKind.i64.wrap (x * 256))).toNat = 2 ^ 8 * m := ⟨(BitVec.ofInt IntKind.i64.bits (IntKind.i64.wrap (x * 256))).toNat / 256, by omega⟩
    rw [hm] at a1 ⊢
    have hlt : (BitVec.ofInt IntKind.i64.bits c).toNat < 2 ^ 8 := by omega
    rw [← Nat.two_pow_add_eq_or_of_lt hlt m]
    omega
  rw [hn]
  simp only [IntKind.wrap_i64]; omega
/-- The number, as it is. -/
def be : Int → List (El tU) → Int
  | x, [] => x
  | x, c :: r => be (x * 256 + c.1) r
theorem numB_eq : ∀ (l : List (El tU)) (x : Int), isB l → IntKind.i64.wrap (numB x l) = IntKind.i64.wrap (be x l) ∧ (l ≠ [] → numB x l = IntKind.i64.wrap (be x l))
  | [], x, _ => ⟨rfl, fun h => absurd rfl h⟩
  | c :: r, x, h => by
    have hc := h c (by simp)
    have hr : isB r := fun y hy => h y (by simp [hy])
    have key : ∀ (l : List (El tU)) (y : Int), isB l → IntKind.i64.wrap (be (IntKind.i64.wrap y) l) = IntKind.i64.wrap (be y l) := by
      intro l
      induction l with
      | nil => intro y _; simp only [be, IntKind.wrap_i64]; omega
      | cons c' r' ih =>
        intro y hb
        have hb' : isB r' := fun z hz => hb z (by simp [hz])
        simp only [be]
        rw [← ih _ hb', ← ih (y * 256 + c'.1) hb', i64_idem]
    have hs := stepB_eq (x := x) hc.1 hc.2
    obtain ⟨h1, h2⟩ := numB_eq r (stepB x c.1) hr
    simp only [numB, be]
    constructor
    · rw [h1, hs, key r _ hr]
    · intro _
      by_cases hr0 : r = []
      · subst hr0; simp only [numB, be]; exact hs
      · rw [h2 hr0, hs, key r _ hr]
theorem numB1 {l : List (El tU)} (h : isB l) (h1 : 1 ≤ l.length) : numB 0 (l.take 1) = (getE tU l 0).1 := by
  cases l with
  | nil => simp at h1
  | cons c r =>
    have hc := h c (by simp)
    show stepB 0 c.1 = c.1
    rw [stepB_eq hc.1 hc.2, IntKind.wrap_i64]; omega

/-! ### The reader, clean -/
def insP (l : List (El tU)) : List (El tI) := l.map fun x => (x.1, ())
def nodeP (b : List (El tU)) : Option (Nd × List (El tU)) :=
  if b.length < 12 then none
  else if b.length < 12 + (getE tU b 11).1.toNat then none
  else some (((getE tU b 0).1, (getE tU b 1).1, IntKind.i64.wrap (be 0 ((b.drop 2).take 8)), (getE tU b 10).1, insP ((b.drop 12).take (getE tU b 11).1.toNat), ()), b.drop (12 + (getE tU b 11).1.toNat))

theorem rd_ok {b : List (El tU)} {w : Nat} (h : w ≤ b.length) : rdS (true, b) w = (true, b.drop w) ∧ rdX (true, b) w = numB 0 (b.take w) := by
  have : decide ((b.length : Int) ≥ (w : Int)) = true := decide_eq_true (by omega)
  simp only [rdS, rdX, takeX, takeB, takeOk, cond_true, this, Int.toNat_natCast, and_self]
theorem rd_short {b : List (El tU)} {w : Nat} (h : b.length < w) : rdS (true, b) w = (false, b) ∧ rdX (true, b) w = 0 := by
  have : decide ((b.length : Int) ≥ (w : Int)) = false := decide_eq_false (by omega)
  simp only [rdS, rdX, takeX, takeB, takeOk, cond_true, this, cond_false, and_self]
theorem rd_no {b : List (El tU)} {w : Int} : rdS (false, b) w = (false, b) ∧ rdX (false, b) w = 0 := by
  simp only [rdS, rdX, takeX, takeB, takeOk, cond_false, and_self]
theorem insL_no (k : Nat) (b : List (El tU)) (l : List (El tI)) : insL k (false, b) l = ((false, b), l) := by
  cases k <;> simp [insL]
theorem insL_ok : ∀ (k : Nat) (b : List (El tU)) (l : List (El tI)), isB b → k ≤ b.length → insL k (true, b) l = ((true, b.drop k), l ++ insP (b.take k))
  | 0, b, l, _, _ => by simp [insL, insP]
  | k + 1, b, l, hb, h => by
    have h1 : 1 ≤ b.length := by omega
    obtain ⟨e1, e2⟩ := rd_ok (b := b) (w := 1) h1
    have e1' : rdS (true, b) 1 = (true, b.drop 1) := e1
    have e2' : rdX (true, b) 1 = (getE tU b 0).1 := e2.trans (numB1 hb h1)
    rw [insL, if_pos rfl, e1', e2', insL_ok k _ _ (hb.drop 1) (by simp; omega)]
    cases b with
    | nil => simp at h1
    | cons c r => simp [insP, getE]
theorem insL_short : ∀ (k : Nat) (b : List (El tU)) (l : List (El tI)), isB b → b.length < k → (insL k (true, b) l).1.1 = false
  | 0, b, l, _, h => by omega
  | k + 1, b, l, hb, h => by
    by_cases h1 : 1 ≤ b.length
    · have e1' : rdS (true, b) 1 = (true, b.drop 1) := (rd_ok (b := b) (w := 1) h1).1
      rw [insL, if_pos rfl, e1']
      exact insL_short k _ _ (hb.drop 1) (by simp; omega)
    · have e1' : rdS (true, b) 1 = (false, b) := (rd_short (b := b) (w := 1) (by omega)).1
      rw [insL, if_pos rfl, e1', insL_no]

theorem rd_isB {s : Rs} (h : isB s.2) (w : Int) : isB (rdS s w).2 := by
  show isB (takeB s.1 s.2 w)
  unfold takeB
  cases takeOk s.1 s.2 w with
  | true => exact h.drop _
  | false => exact h
theorem rd_byte {s : Rs} (h : isB s.2) : 0 ≤ rdX s 1 ∧ rdX s 1 ≤ 255 := by
  obtain ⟨o, b⟩ := s
  cases o with
  | false => rw [rd_no.2]; decide
  | true =>
    by_cases hb : 1 ≤ b.length
    · have e : rdX (true, b) 1 = (getE tU b 0).1 := ((rd_ok (b := b) (w := 1) hb).2).trans (numB1 h hb)
      rw [e]; have h : isB b := h; exact h.get (by omega)
    · have e : rdX (true, b) 1 = 0 := (rd_short (b := b) (w := 1) (by omega)).2
      rw [e]; decide
theorem rd_len {s : Rs} (w : Int) : (rdS s w).2.length ≤ s.2.length := by
  show (takeB s.1 s.2 w).length ≤ _
  unfold takeB
  cases takeOk s.1 s.2 w with
  | true => simp
  | false => exact Nat.le_refl _
theorem hdS_isB {s : Rs} (h : isB s.2) : isB (hdS s).2 := rd_isB (rd_isB (rd_isB (rd_isB (rd_isB h 1) 1) 8) 1) 1
theorem hdN_byte {s : Rs} (h : isB s.2) : 0 ≤ hdN s ∧ hdN s ≤ 255 := rd_byte (rd_isB (rd_isB (rd_isB (rd_isB h 1) 1) 8) 1)
theorem hdS_len (s : Rs) : (hdS s).2.length ≤ s.2.length := Nat.le_trans (rd_len 1) (Nat.le_trans (rd_len 1) (Nat.le_trans (rd_len 8) (Nat.le_trans (rd_len 1) (rd_len 1))))
theorem insL_len : ∀ (k : Nat) (s : Rs) (l : List (El tI)), (insL k s l).2.length ≤ l.length + k ∧ (insL k s l).1.2.length ≤ s.2.length ∧ (isB s.2 → isB (insL k s l).1.2)
  | 0, s, l => ⟨Nat.le_refl _, Nat.le_refl _, id⟩
  | k + 1, s, l => by
    simp only [insL]
    split
    · obtain ⟨h1, h2, h3⟩ := insL_len k (rdS s 1) (l ++ [(rdX s 1, ())])
      simp at h1
      exact ⟨by omega, Nat.le_trans h2 (rd_len 1), fun h => h3 (rd_isB h 1)⟩
    · exact ⟨by simp, Nat.le_refl _, id⟩
theorem getE_drop {t : Ty} (l : List (El t)) (i j : Nat) : getE t (l.drop i) j = getE t l (i + j) := by
  simp [getE, List.getD, List.getElem?_drop]
/-- The reader by a state reads as the clean one. -/
theorem nodeS_ok {b : List (El tU)} (hb : isB b) : (∀ n r, nodeP b = some (n, r) → nodeS (true, b) = (n, (true, r))) ∧ (nodeP b = none → (nodeS (true, b)).2.1 = false) := by
  have hno : ∀ (s : Rs), s.1 = false → (rdS s 1).1 = false ∧ (rdS s 8).1 = false := fun s hs => by
    obtain ⟨o, b⟩ := s
    simp only at hs
    subst hs
    exact ⟨by rw [rd_no.1], by rw [rd_no.1]⟩
  by_cases h12 : b.length < 12
  · have hn : nodeP b = none := by unfold nodeP; rw [if_pos h12]
    refine ⟨fun n r h => (by rw [hn] at h; cases h), fun _ => ?_⟩
    have hhd : (hdS (true, b)).1 = false := by
      have s1 : ∀ (b : List (El tU)) (w : Nat), rdS (true, b) w = (true, b.drop w) ∧ w ≤ b.length ∨ (rdS (true, b) w).1 = false := fun b w => by
        by_cases h : w ≤ b.length
        · exact .inl ⟨(rd_ok h).1, h⟩
        · exact .inr (by rw [(rd_short (by omega)).1])
      unfold hdS
      rcases s1 b 1 with ⟨e, l1⟩ | e
      · rw [show (1 : Int) = ((1 : Nat) : Int) from rfl, e]
        rcases s1 (b.drop 1) 1 with ⟨e, l2⟩ | e
        · rw [show (1 : Int) = ((1 : Nat) : Int) from rfl] at *
          rw [e]
          rcases s1 ((b.drop 1).drop 1) 8 with ⟨e, l3⟩ | e
          · rw [show (8 : Int) = ((8 : Nat) : Int) from rfl, e]
            rcases s1 (((b.drop 1).drop 1).drop 8) 1 with ⟨e, l4⟩ | e
            · rw [e]
              rcases s1 ((((b.drop 1).drop 1).drop 8).drop 1) 1 with ⟨e, l5⟩ | e
              · simp at l1 l2 l3 l4 l5; omega
              · exact e
            · exact (hno _ e).1
          · exact (hno _ (hno _ e).1).1
        · exact (hno _ (hno _ (hno _ e).2).1).1
      · exact (hno _ (hno _ (hno _ (hno _ e).1).2).1).1
    generalize hs : hdS (true, b) = s at hhd
    obtain ⟨o, b'⟩ := s
    simp only at hhd
    subst hhd
    show (insL _ (hdS (true, b)) []).1.1 = false
    rw [hs, insL_no]
  · have l12 : 12 ≤ b.length := by omega
    have e1 : rdS (true, b) 1 = (true, b.drop 1) := (rd_ok (b := b) (w := 1) (by omega)).1
    have e2 : rdS (true, b.drop 1) 1 = (true, b.drop 2) := by have := (rd_ok (b := b.drop 1) (w := 1) (by simp; omega)).1; rw [List.drop_drop] at this; exact this
    have e3 : rdS (true, b.drop 2) 8 = (true, b.drop 10) := by have := (rd_ok (b := b.drop 2) (w := 8) (by simp; omega)).1; rw [List.drop_drop] at this; exact this
    have e4 : rdS (true, b.drop 10) 1 = (true, b.drop 11) := by have := (rd_ok (b := b.drop 10) (w := 1) (by simp; omega)).1; rw [List.drop_drop] at this; exact this
    have e5 : rdS (true, b.drop 11) 1 = (true, b.drop 12) := by have := (rd_ok (b := b.drop 11) (w := 1) (by simp; omega)).1; rw [List.drop_drop] at this; exact this
    have hg : ∀ j, j < b.length → rdX (true, b.drop j) 1 = (getE tU b j).1 := fun j hj => by
      have := (rd_ok (b := b.drop j) (w := 1) (by simp; omega)).2
      refine this.trans ((numB1 (hb.drop j) (by simp; omega)).trans ?_)
      rw [getE_drop]; rfl
    have hx0 : rdX (true, b) 1 = (getE tU b 0).1 := hg 0 (by omega)
    have hx8 : rdX (true, b.drop 2) 8 = IntKind.i64.wrap (be 0 ((b.drop 2).take 8)) := by
      have := (rd_ok (b := b.drop 2) (w := 8) (by simp; omega)).2
      refine this.trans ((numB_eq _ 0 ((hb.drop 2).take 8)).2 fun e => ?_)
      have := congrArg List.length e
      simp at this; omega
    have hu : ∀ j, j < b.length → IntKind.u8.wrap (getE tU b j).1 = (getE tU b j).1 := fun j hj => by have := hb.get hj; rw [IntKind.wrap_u8]; omega
    have hS : hdS (true, b) = (true, b.drop 12) := by unfold hdS; rw [e1, e2, e3, e4, e5]
    have hN : hdN (true, b) = (getE tU b 11).1 := by unfold hdN; rw [e1, e2, e3, e4, hg 11 (by omega)]
    have hO : ∀ l, ndOf (true, b) l = ((getE tU b 0).1, (getE tU b 1).1, IntKind.i64.wrap (be 0 ((b.drop 2).take 8)), (getE tU b 10).1, l, ()) := fun l => by
      unfold ndOf
      rw [e1, e2, e3, hx0, hg 1 (by omega), hx8, hg 10 (by omega), hu 0 (by omega), hu 1 (by omega)]
    unfold nodeS
    rw [hS, hN, hO]
    by_cases hk : b.length < 12 + (getE tU b 11).1.toNat
    · refine ⟨fun n r h => ?_, fun _ => ?_⟩
      · unfold nodeP at h; rw [if_neg h12, if_pos hk] at h; cases h
      · exact insL_short _ _ _ (hb.drop 12) (by simp; omega)
    · refine ⟨fun n r h => ?_, fun h => ?_⟩
      · unfold nodeP at h; rw [if_neg h12, if_neg hk] at h
        injection h with h
        injection h with h1 h2
        rw [insL_ok _ _ _ (hb.drop 12) (by simp; omega), ← h1, ← h2, List.drop_drop, List.nil_append]
      · unfold nodeP at h; rw [if_neg h12, if_neg hk] at h; cases h
theorem nodeP_isB {b : List (El tU)} (hb : isB b) {n : Nd} {r : List (El tU)} (h : nodeP b = some (n, r)) : isB r := by
  unfold nodeP at h
  split at h
  · cases h
  · split at h
    · cases h
    · injection h with h; injection h with _ h2; rw [← h2]; exact hb.drop _

/-! ### Graphs -/
/-- The program's way: as many nodes as the first byte says, each may be written. -/
def getL : Nat → Rs → List Nd → Option (List Nd × Rs)
  | 0, s, g => some (g, s)
  | k + 1, s, g => if (nodeS s).2.1 = true ∧ mayN (nodeS s).1 = true then getL k (nodeS s).2 (g ++ [(nodeS s).1]) else none
def getG (b : List (El tU)) : List Nd × Int :=
  if rdX (true, b) 1 < 1 ∨ 32 < rdX (true, b) 1 then ([], 90) else match getL (rdX (true, b) 1).toNat (rdS (true, b) 1) [] with
    | none => ([], 90)
    | some (g, s) => if s.2.length = 0 then (g, 0) else ([], 90)
/-- The clean way. -/
def getP : Nat → List (El tU) → Option (List Nd)
  | 0, b => if b = [] then some [] else none
  | k + 1, b => match nodeP b with
    | none => none
    | some (n, r) => if mayN n = true then (getP k r).map (n :: ·) else none
def getC (b : List (El tU)) : Option (List Nd) :=
  match b with
  | [] => none
  | c :: r => if c.1 < 1 ∨ 32 < c.1 then none else getP c.1.toNat r
def outG (o : Option (List Nd)) : List Nd × Int :=
  match o with
  | none => ([], 90)
  | some g => (g, 0)
theorem getL_eq : ∀ (k : Nat) (b : List (El tU)) (g : List Nd), isB b →
    (match getL k (true, b) g with | none => none | some (g, s) => if s.2.length = 0 then some g else none) = (getP k b).map (g ++ ·)
  | 0, b, g, _ => by
    simp only [getL, getP]
    by_cases h : b = []
    · subst h; simp
    · rw [if_neg (by simpa using h), if_neg h]; rfl
  | k + 1, b, g, hb => by
    obtain ⟨h1, h2⟩ := nodeS_ok hb
    rw [getL, getP]
    cases hn : nodeP b with
    | none => rw [if_neg (by rw [h2 hn]; simp)]; rfl
    | some p =>
      obtain ⟨n, r⟩ := p
      rw [h1 n r hn]
      by_cases hm : mayN n = true
      · simp only [hm, and_self, if_true]
        rw [getL_eq k r _ (nodeP_isB hb hn)]
        cases getP k r <;> simp
      · simp only [hm, and_false, if_false]; rfl
theorem getE_take {t : Ty} (l : List (El t)) {i n : Nat} (h : i < n) : getE t (l.take n) i = getE t l i := by
  simp [getE, List.getD, List.getElem?_take, h]
theorem nodeP_at (b : List (El tU)) (a : Nat) : nodeP (b.drop a) = if b.length < a + 12 then none else if b.length < a + 12 + (getE tU b (a + 11)).1.toNat then none else
    some (((getE tU b a).1, (getE tU b (a + 1)).1, IntKind.i64.wrap (be 0 ((b.drop (a + 2)).take 8)), (getE tU b (a + 10)).1, insP ((b.drop (a + 12)).take (getE tU b (a + 11)).1.toNat), ()), b.drop (a + 12 + (getE tU b (a + 11)).1.toNat)) := by
  unfold nodeP
  have e : ∀ j, getE tU (b.drop a) j = getE tU b (a + j) := fun j => getE_drop b a j
  simp only [List.length_drop, e, List.drop_drop, Nat.add_zero, Nat.add_assoc]
  by_cases h : b.length < a + 12
  · rw [if_pos (by omega), if_pos h]
  · rw [if_neg (by omega), if_neg h]
    by_cases h2 : b.length < a + (12 + (getE tU b (a + 11)).1.toNat)
    · rw [if_pos (by omega), if_pos h2]
    · rw [if_neg (by omega), if_neg h2]
/-- The number as the document adds it up. -/
def stepU (x c : Int) : Int := IntKind.u64.wrap (IntKind.u64.wrap (x * 2 ^ min (Int.toNat 8) IntKind.u64.bits) + IntKind.u64.wrap c)
def beU : Int → List (El tU) → Int
  | x, [] => x
  | x, c :: r => beU (stepU x c.1) r
theorem beU_eq : ∀ (l : List (El tU)) (x y : Int), x % 18446744073709551616 = y % 18446744073709551616 → beU x l % 18446744073709551616 = be y l % 18446744073709551616
  | [], x, y, h => h
  | c :: r, x, y, h => by
    simp only [beU, be]
    refine beU_eq r _ _ ?_
    unfold stepU
    have e1 : (x * 2 ^ min (Int.toNat 8) IntKind.u64.bits : Int) = x * 256 := by
      have : min (Int.toNat 8) IntKind.u64.bits = 8 := by decide
      rw [this]; rfl
    rw [e1]
    simp only [IntKind.wrap_u64]
    omega
theorem beU_i64 (l : List (El tU)) : IntKind.i64.wrap (beU 0 l) = IntKind.i64.wrap (be 0 l) := by
  have := beU_eq l 0 0 rfl
  simp only [IntKind.wrap_i64]; omega
/-- The document's way. -/
def refL : Nat → List (El tU) → List Nd → Option (List Nd × List (El tU))
  | 0, b, g => some (g, b)
  | k + 1, b, g => match nodeP b with
    | none => none
    | some (n, r) => refL k r (g ++ [n])
def refG (b : List (El tU)) : List Nd × Int :=
  if b.length < 1 then ([], 90) else match refL (getE tU b 0).1.toNat (b.drop 1) [] with
    | none => ([], 90)
    | some (g, r) => if r = [] ∧ mayG g = true then (g, 0) else ([], 90)
theorem refL_eq : ∀ (k : Nat) (b : List (El tU)) (g : List Nd),
    (match refL k b g with | none => none | some (g', r) => if r = [] ∧ g'.all mayN = true then some g' else none) = if g.all mayN = true then (getP k b).map (g ++ ·) else none
  | 0, b, g => by
    simp only [refL, getP]
    by_cases h : b = []
    · simp only [h, true_and, if_true]
      split <;> simp
    · simp only [h, false_and, if_false]
      split <;> rfl
  | k + 1, b, g => by
    rw [refL, getP]
    cases hn : nodeP b with
    | none => simp only []; split <;> rfl
    | some p =>
      obtain ⟨n, r⟩ := p
      simp only []
      rw [refL_eq k r (g ++ [n]), List.all_append]
      by_cases hg : g.all mayN = true
      · by_cases hm : mayN n = true
        · simp only [hg, hm, List.all_cons, List.all_nil, Bool.and_true, if_true]
          cases getP k r <;> simp
        · simp only [hg, hm, List.all_cons, List.all_nil, Bool.and_true, if_true, if_false, Bool.true_and]
          rfl
      · simp only [hg, Bool.false_and, Bool.false_eq_true, if_false]
theorem getP_len : ∀ (k : Nat) (b : List (El tU)) (g : List Nd), getP k b = some g → g.length = k
  | 0, b, g, h => by
    simp only [getP] at h
    split at h
    · injection h with h; subst h; rfl
    · cases h
  | k + 1, b, g, h => by
    simp only [getP] at h
    split at h
    · cases h
    · rename_i n r _
      split at h
      · cases hp : getP k r with
        | none => rw [hp] at h; cases h
        | some q => rw [hp] at h; injection h with h; subst h; simp [getP_len k r q hp]
      · cases h
theorem refL_len : ∀ (k : Nat) (b : List (El tU)) (g : List Nd) {p}, refL k b g = some p → p.1.length = g.length + k
  | 0, b, g, p, h => by injection h with h; subst h; rfl
  | k + 1, b, g, p, h => by
    simp only [refL] at h
    split at h
    · cases h
    · have := refL_len k _ _ h
      simp at this; omega
theorem refG_eq {b : List (El tU)} (hb : isB b) : refG b = outG (getC b) := by
  unfold refG
  cases b with
  | nil => rfl
  | cons c r =>
    rw [if_neg (by simp)]
    show (match refL c.1.toNat r [] with
      | none => (([], 90) : List Nd × Int)
      | some (g, r) => if r = [] ∧ mayG g = true then (g, 0) else ([], 90)) = outG (if c.1 < 1 ∨ 32 < c.1 then none else getP c.1.toNat r)
    have h := refL_eq c.1.toNat r []
    simp only [List.all_nil, if_true] at h
    have hc := hb c (by simp)
    cases hL : refL c.1.toNat r [] with
    | none =>
      rw [hL] at h
      simp only [] at h
      have hP : getP c.1.toNat r = none := by
        cases hP : getP c.1.toNat r with
        | none => rfl
        | some q => rw [hP] at h; cases h
      simp only [hP]
      split <;> rfl
    | some p =>
      obtain ⟨g, r'⟩ := p
      have hlen := refL_len _ _ _ hL
      simp only [List.length_nil, Nat.zero_add] at hlen
      rw [hL] at h
      simp only [] at h ⊢
      have hmay : (mayG g = true) ↔ (g.all mayN = true ∧ ¬ (c.1 < 1 ∨ 32 < c.1)) := by
        unfold mayG
        rw [Bool.and_eq_true, Bool.and_eq_true, decide_eq_true_iff, decide_eq_true_iff, hlen]
        constructor
        · rintro ⟨h1, h2, h3⟩; exact ⟨h1, by omega⟩
        · rintro ⟨h1, h2⟩; exact ⟨h1, by omega, by omega⟩
      by_cases hg : r' = [] ∧ g.all mayN = true
      · rw [if_pos hg] at h
        have hP : getP c.1.toNat r = some g := by
          cases hP : getP c.1.toNat r with
          | none => rw [hP] at h; cases h
          | some q => rw [hP] at h; simp at h; rw [h]
        by_cases hr : c.1 < 1 ∨ 32 < c.1
        · rw [if_neg (fun hh => (hmay.1 hh.2).2 hr), if_pos hr]; rfl
        · rw [if_pos ⟨hg.1, hmay.2 ⟨hg.2, hr⟩⟩, if_neg hr, hP]; rfl
      · rw [if_neg hg] at h
        have hP : getP c.1.toNat r = none := by
          cases hP : getP c.1.toNat r with
          | none => rfl
          | some q => rw [hP] at h; cases h
        rw [if_neg (fun hh => hg ⟨hh.1, (hmay.1 hh.2).1⟩), hP]
        split <;> rfl
theorem getG_eq {b : List (El tU)} (hb : isB b) : getG b = outG (getC b) := by
  unfold getG
  cases b with
  | nil => 
    have : rdX (true, ([] : List (El tU))) 1 = 0 := by rfl
    rw [this]; rfl
  | cons c r =>
    have e1 : rdS (true, c :: r) 1 = (true, r) := (rd_ok (b := c :: r) (w := 1) (by simp)).1
    have e2 : rdX (true, c :: r) 1 = c.1 := ((rd_ok (b := c :: r) (w := 1) (by simp)).2).trans (numB1 hb (by simp))
    rw [e1, e2]
    unfold getC
    by_cases h : c.1 < 1 ∨ 32 < c.1
    · simp only [if_pos h]; rfl
    · simp only [if_neg h]
      have := getL_eq c.1.toNat r [] (hb.drop 1)
      cases hL : getL c.1.toNat (true, r) [] with
      | none =>
        rw [hL] at this
        simp only [] at this ⊢
        cases hP : getP c.1.toNat r with
        | none => rfl
        | some q => rw [hP] at this; cases this
      | some p =>
        obtain ⟨g, s⟩ := p
        rw [hL] at this
        simp only [] at this ⊢
        split
        · rename_i h0
          rw [if_pos h0] at this
          cases hP : getP c.1.toNat r with
          | none => rw [hP] at this; cases this
          | some q => rw [hP] at this; simp at this; subst this; rfl
        · rename_i h0
          rw [if_neg h0] at this
          cases hP : getP c.1.toNat r with
          | none => rfl
          | some q => rw [hP] at this; cases this
end Go.Proofs.Ytjikhbdpkddbgaa
