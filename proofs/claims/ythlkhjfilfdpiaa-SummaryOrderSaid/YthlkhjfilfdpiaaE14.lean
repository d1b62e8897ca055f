/- ENGINE, 14: what a function takes and gives, told by shapes. -/
import Derived.Test.YthlkhjfilfdpiaaE13
namespace Go.Proofs.Ythlkhjfilfdpiaa.Eng
set_option linter.unusedVariables false
set_option linter.unusedSimpArgs false
open Go Go.RowKit

/-! ### What guards ask -/
theorem pk1 {x w : Bool} : true = true → x = w → (x == w) = true := fun _ h => by simp [h]
theorem pk2 {g x w : Bool} : g = true → x = w → (g && (x == w)) = true := fun h1 h2 => by simp [h1, h2]
theorem pk3 {g x : Bool} : (g && x) = true → g = true := fun h => by simp at h; exact h.1
theorem pk4 {g x y : Bool} : ((g && x) && y) = true → g = true := fun h => pk3 (pk3 h)
theorem pk5 {g x y z : Bool} : (((g && x) && y) && z) = true → g = true := fun h => pk3 (pk4 h)
theorem pk6 {g x y z v : Bool} : ((((g && x) && y) && z) && v) = true → g = true := fun h => pk3 (pk5 h)

/-- How a thing of plain Lean stands as an abstract value. -/
structure Sh (α : Type) where
  get : AV → Option α
  put : α → AV
  ok : ∀ v x, get v = some x → v = put x
  shut : ∀ x, shut (put x) = true

abbrev I (n : Int) : AV := .v (.int .i64 n)
abbrev U8 (n : Int) : AV := .v (.int .u8 n)
abbrev B (b : Bool) : AV := .v (.bool b)
/-- Numbers of a kind; Bools. -/
def gK (k : IntKind) : AV → Option Int
  | .v (.int l n) => if l = k then some n else none
  | _ => none
theorem gK_ok {k : IntKind} {v : AV} {n : Int} (h : gK k v = some n) : v = .v (.int k n) := by
  unfold gK at h
  split at h
  · split at h
    · rename_i e; injection h with h; subst e h; rfl
    · cases h
  · cases h
def shK (k : IntKind) : Sh Int := ⟨gK k, fun n => .v (.int k n), fun _ _ h => gK_ok h, fun _ => rfl⟩
def shI : Sh Int := shK .i64
def gB : AV → Option Bool
  | .v (.bool b) => some b
  | _ => none
theorem gB_ok {v : AV} {b : Bool} (h : gB v = some b) : v = .v (.bool b) := by
  unfold gB at h
  split at h
  · injection h with h; subst h; rfl
  · cases h
def shB : Sh Bool := ⟨gB, fun b => .v (.bool b), fun _ _ h => gB_ok h, fun _ => rfl⟩
/-- Cells of numbers. -/
def gL : Nat → AV → Option (List Int)
  | 0, .nil => some []
  | n + 1, .cons (.v (.int .i64 x)) r => (gL n r).map (x :: ·)
  | _, _ => none
def pL : List Int → AV
  | [] => .nil
  | x :: r => .cons (.v (.int .i64 x)) (pL r)
theorem gL_ok : ∀ (n : Nat) {v : AV} {l : List Int}, gL n v = some l → v = pL l ∧ l.length = n
  | 0, v, l, h => by
    unfold gL at h
    split at h
    · injection h with h; subst h; exact ⟨rfl, rfl⟩
    · rename_i h1; cases h1
    · cases h
  | n + 1, v, l, h => by
    unfold gL at h
    split at h
    · rename_i h1; cases h1
    · rename_i m x r h1
      injection h1 with h1; subst h1
      simp only [Option.map_eq_some_iff] at h
      obtain ⟨q, hq, rfl⟩ := h
      obtain ⟨e, hl⟩ := gL_ok n hq
      exact ⟨by rw [e]; rfl, by simp [hl]⟩
    · cases h
theorem pL_shut : ∀ l, shut (pL l) = true
  | [] => rfl
  | _ :: r => by simp [pL, Eng.shut, pL_shut r]

/-- What a function takes, and what it gives. -/
inductive Sig : Type 1 where
  | done (r : CR)
  | arg {α : Type} (A : Sh α) (k : α → Sig)
def Sig.con : Sig → Con
  | .done r, .nil => some r
  | .arg A k, .cons x l => match A.get x with
    | some a => (k a).con l
    | none => none
  | _, _ => none
def Sig.all (N : Nat) (run : AV → CR → Prop) : Sig → Nat → (AV → AV) → Prop
  | .done r, n, acc => Nat.ble n N = true ∧ (r.pre → run (acc .nil) r)
  | .arg A k, n, acc => ∀ a, (k a).all N run (n + 1) fun l => acc (.cons (A.put a) l)

theorem Sig.all_ok {N : Nat} {run : AV → CR → Prop} : ∀ (s : Sig) (n : Nat) (acc : AV → AV), (∀ l m, lenIs l m = true → lenIs (acc l) (n + m) = true) → (∀ l, shut l = true → shut (acc l) = true) → s.all N run n acc →
    ∀ l r, s.con l = some r → ∃ m, lenIs (acc l) m = true ∧ m ≤ N ∧ shut (acc l) = true ∧ (r.pre → run (acc l) r)
  | .done r0, n, acc, hl, hs, ⟨h1, h2⟩, l, r, h => by
    unfold Sig.con at h
    split at h
    · rename_i r1 e1
      injection e1 with e1
      injection h with h
      subst e1 h
      exact ⟨n, hl .nil 0 rfl, Nat.le_of_ble_eq_true h1, hs .nil rfl, h2⟩
    · rename_i h1; cases h1
    · cases h
  | .arg A k, n, acc, hl, hs, hall, l, r, h => by
    unfold Sig.con at h
    split at h
    · rename_i h1; cases h1
    · rename_i A' k' x l' h1
      cases h1
      split at h
      · rename_i a ha
        have e := A.ok _ _ ha
        subst e
        obtain ⟨m, q1, q2, q3, q4⟩ := Sig.all_ok (k a) (n + 1) _ (fun l m hm => by rw [show n + 1 + m = n + (m + 1) by omega]; exact hl _ _ hm) (fun l hl' => hs _ (by simp [Eng.shut, A.shut, hl'])) (hall a) l' r h
        exact ⟨m, q1, q2, q3, q4⟩
      · cases h
    · cases h

/-- **A function's contract**, by what it takes and gives, out of the run of its code. -/
theorem fnOkS {P : Program} (hm : P.follows .mixedOrders = true) {tys : List (TypeId × TI)} (hT : AllTy P tys) {cs : List (FuncId × Con)} (hC : AllFn P cs) {f : FuncId} {fn : Func} (hf : P.funcs[f]? = some fn) {co : Code} (hb : fn.body = some co)
    (hname : (fn.name == "runtime.NumGoroutine") = false) {N : Nat} (hN : fn.ntmps = N) (s : Sig)
    (h : s.all N (fun l r => run ⟨tys, N, cOf cs⟩ co (argF l 0) [] 0 (fin ⟨tys, N, cOf cs⟩ fn.results.toList r.res)) 0 id) : FnOk P f s.con := by
  intro l r hk hpre c args hs hO
  obtain ⟨m, h1, h2, h3, h4⟩ := Sig.all_ok s 0 id (fun l m hm => by simpa using hm) (fun l h => h) h l r hk
  refine ⟨⟨fn, hf, by rw [hb]; rfl, by simpa using hname⟩, ?_⟩
  subst hN
  exact calls_of_run hm ⟨allTy_ok tys hT, allFn_ok cs hC⟩ hf hb rfl h1 h2 h3 (h4 hpre) c args hs hO

end Go.Proofs.Ythlkhjfilfdpiaa.Eng
