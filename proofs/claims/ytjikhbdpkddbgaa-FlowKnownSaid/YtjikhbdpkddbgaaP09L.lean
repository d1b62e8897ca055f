/- What layer 9's statements need besides: in plain Lean. No program in sight. -/
import Derived.Test.YtjikhbdpkddbgaaP09R
import Derived.Test.YtjikhbdpkddbgaaF16
namespace Go.Proofs.Ytjikhbdpkddbgaa
set_option linter.unusedVariables false
set_option linter.unusedSimpArgs false
open Go Go.Proofs.Ytjikhbdpkddbgaa.Eng

/-- All inputs of nodes. -/
def insOf (g : List Nd) : List (El tI) := g.flatMap Nd.ins
def cntE (i : Int) (l : List (El tI)) : Nat := l.countP fun x => decide (x.1 = i)
def cntIn (n : Nat) (l : List (El tI)) : Nat := l.countP fun x => decide ((0 : Int) ≤ x.1) && decide (x.1 < (n : Int))
def sumTo (g : List Nd) : Nat → Nat
  | 0 => 0
  | n + 1 => sumTo g n + (toG g n).length
theorem toIn_cnt (n i : Int) : ∀ (k : Int) (l : List (El tI)), (toIn n i k l).length = cntE i l
  | _, [] => rfl
  | k, x :: r => by
    unfold cntE
    simp only [toIn, List.countP_cons]
    have := toIn_cnt n i (k + 1) r
    unfold cntE at this
    by_cases h : x.1 = i <;> simp [h, this]
theorem toOut_cnt (i : Int) : ∀ (n : Int) (g : List Nd), (toOut i n g).length = cntE i (insOf g)
  | _, [] => rfl
  | n, x :: r => by
    unfold insOf
    rw [toOut, List.length_append, toIn_cnt, toOut_cnt i (n + 1) r, List.flatMap_cons]
    unfold cntE insOf
    rw [List.countP_append]
theorem cntIn_succ (n : Nat) : ∀ (l : List (El tI)), cntIn (n + 1) l = cntIn n l + cntE n l
  | [] => rfl
  | x :: r => by
    have := cntIn_succ n r
    unfold cntIn cntE at this ⊢
    simp only [List.countP_cons]
    rw [this]
    by_cases h1 : 0 ≤ x.1 <;> by_cases h2 : x.1 < (n : Int) <;> by_cases h3 : x.1 = (n : Int)
    · omega
    · have : x.1 < (n : Int) + 1 := by omega
      simp [h1, h2, h3, this]; omega
    · have : x.1 < (n : Int) + 1 := by omega
      have h4 : decide (x.1 < (n : Int) + 1) = true := decide_eq_true this
      simp only [Int.natCast_add, Int.natCast_one, h4, decide_eq_true h1, decide_eq_false h2, decide_eq_true h3, Bool.and_true, Bool.and_false, if_true]
      simp; omega
    · have : ¬ x.1 < (n : Int) + 1 := by omega
      simp [h1, h2, h3, this]
    · omega
    · simp [h1, h2, h3]
    · omega
    · simp [h1, h2, h3]
theorem sumTo_eq (g : List Nd) : ∀ n : Nat, sumTo g n = cntIn n (insOf g)
  | 0 => by
    unfold cntIn
    simp only [sumTo]
    symm
    rw [List.countP_eq_zero]
    intro x _
    simp only [Bool.and_eq_true, decide_eq_true_eq]
    omega
  | n + 1 => by rw [sumTo, sumTo_eq g n, cntIn_succ]; congr 1; exact toOut_cnt _ _ _
theorem toG_le {g : List Nd} {m : Nat} (h : ∀ n ∈ g, (Nd.ins n).length ≤ m) (i : Int) : (toG g i).length ≤ g.length * m := toOut_len i 0 g h
theorem insOf_le {g : List Nd} {m : Nat} (h : ∀ n ∈ g, (Nd.ins n).length ≤ m) : (insOf g).length ≤ g.length * m := by
  unfold insOf
  induction g with
  | nil => simp
  | cons n r ih =>
    rw [List.flatMap_cons, List.length_append, List.length_cons, Nat.add_mul]
    have h1 := ih fun x hx => h x (by simp [hx])
    have h2 := h n (by simp)
    omega
theorem insOf_snoc {g : List Nd} {j : Nat} (h : j < g.length) : insOf (g.take (j + 1)) = insOf (g.take j) ++ Nd.ins (getE tN g j) := by
  unfold insOf
  rw [take_get g h, List.flatMap_append]; simp
theorem cntIn_app (n : Nat) (l m : List (El tI)) : cntIn n (l ++ m) = cntIn n l + cntIn n m := by unfold cntIn; rw [List.countP_append]
theorem cntIn_one (n : Nat) (x : El tI) : cntIn n [x] = if (decide (x.1 ≥ 0) && decide (x.1 < (n : Int))) = true then 1 else 0 := by
  unfold cntIn
  rw [List.countP_cons, List.countP_nil, Nat.zero_add]
theorem cntIn_le (n : Nat) (l : List (El tI)) : cntIn n l ≤ l.length := List.countP_le_length
/-- Two graphs' bytes are the same just if they are the same. -/
theorem apart {a b : List Nd} {x y : List (El tU)} (ha : ∀ n ∈ a, okN n) (hb : ∀ n ∈ b, okN n) (h1 : putG a = (x, 0)) (h2 : putG b = (y, 0)) : (x = y) ↔ (a = b) := by
  constructor
  · intro e
    have e1 := get_put ha h1
    have e2 := get_put hb h2
    rw [e, e2] at e1
    injection e1 with e1
    exact e1.symm
  · intro e
    rw [e, h2] at h1
    injection h1 with h1
    exact h1.symm
theorem map_byte {a b : List (El tU)} (ha : isB a) (hb : isB b) : (a.map fun x => UInt8.ofNat x.1.toNat) = (b.map fun x => UInt8.ofNat x.1.toNat) ↔ a = b := by
  constructor
  · intro e
    have key : ∀ (l : List (El tU)), isB l → (l.map fun x => UInt8.ofNat x.1.toNat).map (fun c => ((c.toNat : Int), ())) = l := by
      intro l hl
      rw [List.map_map]
      refine (List.map_congr_left fun x hx => ?_).trans (List.map_id l)
      have := hl x hx
      show (((UInt8.ofNat x.1.toNat).toNat : Int), ()) = x
      have : (UInt8.ofNat x.1.toNat).toNat = x.1.toNat := by
        rw [UInt8.toNat_ofNat']; omega
      rw [this, Int.toNat_of_nonneg (hl x hx).1]
    rw [← key a ha, ← key b hb, e]
  · intro e; rw [e]
def okG (g : List Nd) : Prop := ∀ n ∈ g, okN n
theorem okG_of {g : List Nd} (h : ∀ n ∈ g, okT tN n) : okG g := fun n hn => by
  obtain ⟨h1, h2, h3, _⟩ := h n hn
  exact ⟨h1, h2, h3⟩
theorem isB_of {b : List (El tU)} (h : ∀ x ∈ b, okT tU x) : isB b := fun x hx => (h x hx).1
theorem pick_lt {i n : Int} (h : 0 < n) (h' : n ≤ 1000000000) : 0 ≤ pick i n ∧ pick i n < n := by
  unfold pick
  rw [if_neg (by omega)]
  have h1 : -n < i.tmod n ∧ i.tmod n < n := by
    have := Int.tmod_lt_of_pos i h
    have h2 : -(i.tmod n) < n := by
      rw [← Int.neg_tmod]; exact Int.tmod_lt_of_pos _ h
    omega
  rw [IntKind.wrap_i64]
  have e : (i.tmod n + n + 9223372036854775808) % 18446744073709551616 - 9223372036854775808 = i.tmod n + n := by omega
  rw [e]
  exact ⟨Int.tmod_nonneg _ (by omega), Int.tmod_lt_of_pos _ h⟩
theorem bytes_back {b : List (El tU)} (hb : isB b) : ofBytes (bytesOf b) = b := by
  show ((b.map fun x => UInt8.ofNat x.1.toNat).toArray.toList).map (fun c => ((c.toNat : Int), ())) = b
  rw [List.map_map]
  refine (List.map_congr_left fun x hx => ?_).trans (List.map_id b)
  have := hb x hx
  show (((UInt8.ofNat x.1.toNat).toNat : Int), ()) = x
  have : (UInt8.ofNat x.1.toNat).toNat = x.1.toNat := by
    rw [UInt8.toNat_ofNat']; omega
  rw [this, Int.toNat_of_nonneg (hb x hx).1]
theorem bytes_size (b : List (El tU)) : (bytesOf b).size = b.length := by
  show (b.map fun x => UInt8.ofNat x.1.toNat).toArray.size = _
  simp
/-- The chapter's example. -/
def gW : List Nd := [(1, 0, 0, 0, [], ()), (2, 3, -1, 0, [(0, ())], ())]
theorem gW_ok : okG gW := fun n hn => by
  simp only [gW, List.mem_cons, List.not_mem_nil, or_false] at hn
  rcases hn with rfl | rfl
  · exact ⟨⟨by decide, by decide⟩, ⟨by decide, by decide⟩, ⟨by decide, by decide⟩⟩
  · exact ⟨⟨by decide, by decide⟩, ⟨by decide, by decide⟩, ⟨by decide, by decide⟩⟩
theorem gW_put : putG gW = ([(2, ()), (1, ()), (0, ()), (0, ()), (0, ()), (0, ()), (0, ()), (0, ()), (0, ()), (0, ()), (0, ()), (0, ()), (0, ()), (2, ()), (3, ()), (255, ()), (255, ()), (255, ()), (255, ()), (255, ()), (255, ()), (255, ()), (255, ()), (0, ()), (1, ()), (0, ())], 0) := by decide
theorem gW_put1 : putG (gW.take 1) = ([(1, ()), (1, ()), (0, ()), (0, ()), (0, ()), (0, ()), (0, ()), (0, ()), (0, ()), (0, ()), (0, ()), (0, ()), (0, ())], 0) := by decide
theorem gW_isB : isB (putG gW).1 := putG_isB gW_ok
theorem gW_get : getG (putG gW).1 = (gW, 0) := by rw [getG_eq gW_isB, get_put gW_ok (a := (putG gW).1) (by rw [gW_put])]; rfl
end Go.Proofs.Ytjikhbdpkddbgaa
