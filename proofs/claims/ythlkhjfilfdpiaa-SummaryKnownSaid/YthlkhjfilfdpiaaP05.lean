/- Times and summaries in plain Lean: what layers 5 and 8 answer. No program in sight. -/
import Derived.PlainAid
namespace Go.Proofs.Ythlkhjfilfdpiaa

/-- A time: depth, epoch, three counters. -/
structure St where
  d : Int
  e : Int
  a : Int
  b : Int
  c : Int

/-- A summary: from, to, keep, add, three counters behind. -/
structure Sm where
  f : Int
  t : Int
  k : Int
  n : Int
  a : Int
  b : Int
  c : Int

def tOK (d e a b c : Int) : Prop :=
  0 ≤ d ∧ d ≤ 3 ∧ 0 ≤ e ∧ e < 1000 ∧ 0 ≤ a ∧ a < 16 ∧ 0 ≤ b ∧ b < 16 ∧ 0 ≤ c ∧ c < 16 ∧ (d ≤ 0 → a = 0) ∧ (d ≤ 1 → b = 0) ∧ (d ≤ 2 → c = 0)
instance (d e a b c : Int) : Decidable (tOK d e a b c) := by unfold tOK; infer_instance
/-- Is a time right? -/
def rT (d e a b c : Int) : Bool := decide (tOK d e a b c)

def sOK (f t k n a b c : Int) : Prop :=
  0 ≤ f ∧ f ≤ 3 ∧ 0 ≤ t ∧ t ≤ 3 ∧ 0 ≤ k ∧ k ≤ f ∧ k ≤ t ∧ 0 ≤ n ∧ n < 16 ∧ (k = 0 → n = 0) ∧
  0 ≤ a ∧ a < 16 ∧ 0 ≤ b ∧ b < 16 ∧ 0 ≤ c ∧ c < 16 ∧ (t - k ≤ 0 → a = 0) ∧ (t - k ≤ 1 → b = 0) ∧ (t - k ≤ 2 → c = 0)
instance (f t k n a b c : Int) : Decidable (sOK f t k n a b c) := by unfold sOK; infer_instance
/-- Is a summary right? -/
def rS (f t k n a b c : Int) : Bool := decide (sOK f t k n a b c)

theorem rT_true {d e a b c : Int} (h : tOK d e a b c) : rT d e a b c = true := decide_eq_true h
theorem rT_false {d e a b c : Int} (h : ¬ tOK d e a b c) : rT d e a b c = false := decide_eq_false h
theorem rT_ok {d e a b c : Int} (h : rT d e a b c = true) : tOK d e a b c := of_decide_eq_true h
theorem rT_not {d e a b c : Int} (h : rT d e a b c = false) : ¬ tOK d e a b c := of_decide_eq_false h
theorem rS_true {f t k n a b c : Int} (h : sOK f t k n a b c) : rS f t k n a b c = true := decide_eq_true h
theorem rS_false {f t k n a b c : Int} (h : ¬ sOK f t k n a b c) : rS f t k n a b c = false := decide_eq_false h
theorem rS_ok {f t k n a b c : Int} (h : rS f t k n a b c = true) : sOK f t k n a b c := of_decide_eq_true h
theorem rS_not {f t k n a b c : Int} (h : rS f t k n a b c = false) : ¬ sOK f t k n a b c := of_decide_eq_false h

def St.ok (s : St) : Bool := rT s.d s.e s.a s.b s.c
def Sm.ok (s : Sm) : Bool := rS s.f s.t s.k s.n s.a s.b s.c

/-- Is a counter right? Is a depth? -/
def ctr (n : Int) : Bool := decide (0 ≤ n ∧ n < 16)
def dpt (n : Int) : Bool := decide (0 ≤ n ∧ n ≤ 3)
theorem ctr_true {n : Int} (h : 0 ≤ n ∧ n < 16) : ctr n = true := decide_eq_true h
theorem ctr_false {n : Int} (h : ¬ (0 ≤ n ∧ n < 16)) : ctr n = false := decide_eq_false h
theorem ctr_ok {n : Int} (h : ctr n = true) : 0 ≤ n ∧ n < 16 := of_decide_eq_true h
theorem ctr_not {n : Int} (h : ctr n = false) : ¬ (0 ≤ n ∧ n < 16) := of_decide_eq_false h
theorem dpt_true {n : Int} (h : 0 ≤ n ∧ n ≤ 3) : dpt n = true := decide_eq_true h
theorem dpt_false {n : Int} (h : ¬ (0 ≤ n ∧ n ≤ 3)) : dpt n = false := decide_eq_false h
theorem dpt_ok {n : Int} (h : dpt n = true) : 0 ≤ n ∧ n ≤ 3 := of_decide_eq_true h
theorem dpt_not {n : Int} (h : dpt n = false) : ¬ (0 ≤ n ∧ n ≤ 3) := of_decide_eq_false h

/-- No time; no summary. -/
def St.zero : St := ⟨0, 0, 0, 0, 0⟩
def Sm.zero : Sm := ⟨0, 0, 0, 0, 0, 0, 0⟩

/-- The counter at a place. -/
def St.at (s : St) (i : Int) : Int := if i = 0 then s.a else if i = 1 then s.b else s.c
def Sm.at (s : Sm) (i : Int) : Int := if i = 0 then s.a else if i = 1 then s.b else s.c

/-- The summary of a kind of node. -/
def ofS (kind depth : Int) : Sm × Bool :=
  let s : Sm := if kind = 7 then ⟨depth - 1, depth, depth - 1, 0, 0, 0, 0⟩ else if kind = 8 then ⟨depth + 1, depth, depth, 0, 0, 0, 0⟩
    else if kind = 9 then ⟨depth, depth, depth, 1, 0, 0, 0⟩ else ⟨depth, depth, depth, 0, 0, 0, 0⟩
  if 1 ≤ kind ∧ kind ≤ 10 ∧ s.ok = true then (s, true) else (Sm.zero, false)

/-- What a summary makes of the counter at a place: kept and added, or what stands behind. -/
def apN (s : Sm) (t : St) (i : Int) : Int :=
  if i < s.k then t.at i + (if i = s.k - 1 then s.n else 0) else if i < s.t then s.at (i - s.k) else 0
/-- What becomes of a time. -/
def apS (s : Sm) (t : St) : St × Bool :=
  let u : St := ⟨s.t, t.e, apN s t 0, apN s t 1, apN s t 2⟩
  if s.ok = true ∧ t.ok = true ∧ t.d = s.f ∧ u.ok = true then (u, true) else (St.zero, false)

/-- What a summary adds, or what it has, at a place. -/
def rwN (s : Sm) (i : Int) : Int := if i < s.k - 1 then 0 else if i = s.k - 1 then s.n else s.at (i - s.k)
/-- What a summary makes of a place. -/
def atS (s : Sm) (i : Int) : Bool × Int := if i ≥ s.k then (false, s.at (i - s.k)) else if i = s.k - 1 then (true, s.n) else (true, 0)

/-- One way behind another one, not yet looked at. -/
def thT (a b : Sm) (i : Int) : Int := if i < b.k - a.k then a.at i + (if i = b.k - a.k - 1 then b.n else 0) else b.at (i - (b.k - a.k))
def thC (a b : Sm) : Sm :=
  if b.k < a.k then ⟨a.f, b.t, b.k, b.n, b.a, b.b, b.c⟩
  else if b.k = a.k then ⟨a.f, b.t, a.k, a.n + b.n, b.a, b.b, b.c⟩
  else ⟨a.f, b.t, a.k, a.n, thT a b 0, thT a b 1, thT a b 2⟩
def thS (a b : Sm) : Sm × Bool :=
  if a.ok = true ∧ b.ok = true ∧ a.t = b.f ∧ (thC a b).ok = true then (thC a b, true) else (Sm.zero, false)
/-- Is a way at or ahead of another one? -/
def leS (a b : Sm) : Bool :=
  decide (a.ok = true ∧ b.ok = true ∧ a.f = b.f ∧ a.t = b.t ∧ a.k ≤ b.k ∧ rwN a 0 ≤ rwN b 0 ∧ rwN a 1 ≤ rwN b 1 ∧ rwN a 2 ≤ rwN b 2)

/-- Times of one depth; the least one that both are at or ahead of; at or ahead of another one? -/
def alS (a b : St) : Bool := decide (a.d = b.d ∧ a.ok = true ∧ b.ok = true)
def mx (x y : Int) : Int := if y > x then y else x
def joS (a b : St) : St × Bool := if alS a b = true then (⟨a.d, mx a.e b.e, mx a.a b.a, mx a.b b.b, mx a.c b.c⟩, true) else (St.zero, false)
def leT (a b : St) : Bool := decide (alS a b = true ∧ a.e ≤ b.e ∧ a.a ≤ b.a ∧ a.b ≤ b.b ∧ a.c ≤ b.c)

end Go.Proofs.Ythlkhjfilfdpiaa
