/- ENGINE 2, 14: what a function takes and gives, told by shapes. -/
import Derived.Test.YthlkhjfilfdpiaaF13
namespace Go.Proofs.Ythlkhjfilfdpiaa.Eng
set_option linter.unusedVariables false
set_option linter.unusedSimpArgs false
open Go Go.RowKit

/-! ### What guards ask -/
theorem pk1 {x w : Bool} : true = true → x = w → (x == w) = true := fun _ h => by simp [h]
theorem pk2 {g x w : Bool} : g = true → x = w → (g && (x == w)) = true := fun h1 h2 => by simp [h1, h2]
theorem pk3 {g x : Bool} : (g && x) = true → g = true := fun h => by simp at h; exact h.1
theorem pk4 {g x y : Bool} : ((g && x) && y) = true → g = true := fun h => pk3 (pk3 h)
theorem pk5 {g x y z : Bool} : (((g && x) && y) && z) = true → g = true := fun h => pk3 (pk4 h)
theorem pk6 {g x y z v : Bool} : ((((g && x) && y) && z) && v) = true → g = true := fun h => pk3 (pk5 h)

/-- How a thing of plain Lean stands as an abstract value. -/
structure Sh (α : Type) where
  get : AV → Option α
  put : α → AV
  ok : ∀ v x, get v = some x → ∀ c vs, sat v c vs → sat (put x) c vs
def Sh.mk' {α : Type} (get : AV → Option α) (put : α → AV) (ok : ∀ v x, get v = some x → v = put x) : Sh α := ⟨get, put, fun v x h c vs hs => by rw [← ok v x h]; exact hs⟩

abbrev I (n : Int) : AV := .v (.int .i64 n)
abbrev U8 (n : Int) : AV := .v (.int .u8 n)
abbrev B (b : Bool) : AV := .v (.bool b)
/-- Numbers of a kind; Bools. -/
def gK (k : IntKind) : AV → Option Int
  | .v (.int l n) => if l = k then some n else none
  | _ => none
theorem gK_ok {k : IntKind} {v : AV} {n : Int} (h : gK k v = some n) : v = .v (.int k n) := by
  unfold gK at h
  split at h
  · split at h
    · rename_i e; injection h with h; subst e h; rfl
    · cases h
  · cases h
def shK (k : IntKind) : Sh Int := .mk' (gK k) (fun n => .v (.int k n)) (fun _ _ h => gK_ok h)
def shI : Sh Int := shK .i64
def gB : AV → Option Bool
  | .v (.bool b) => some b
  | _ => none
theorem gB_ok {v : AV} {b : Bool} (h : gB v = some b) : v = .v (.bool b) := by
  unfold gB at h
  split at h
  · injection h with h; subst h; rfl
  · cases h
def shB : Sh Bool := .mk' gB (fun b => .v (.bool b)) (fun _ _ h => gB_ok h)
/-- Slices that are only read. -/
def gR (t : Ty) : AV → Option (List (El t))
  | .rl _ t' l => castK t' t l none some
  | .rc _ t' l => castK t' t l none some
  | .em => some []
  | .v (.slice none n _) => bif Nat.beq n 0 then some [] else none
  | _ => none
theorem gR_ok {t : Ty} {v : AV} {l : List (El t)} (h : gR t v = some l) (c : Cx) (vs : List Value) (hs : sat v c vs) : sat (.rl false t l) c vs := by
  unfold gR at h
  split at h
  · rename_i q t' l'
    revert h
    refine castK_ok (P := fun o : Option (List (El t)) => o = some l → _) (fun h => by cases h) fun e h => ?_
    subst e
    have h' : l' = l := by simpa using h
    subst h'
    obtain ⟨A, m, e, hm, hL⟩ := hs
    exact ⟨A, m, e, hm, memR_q (qb_mono (by simp) (Nat.le_refl _)) hL⟩
  · rename_i q t' l'
    revert h
    refine castK_ok (P := fun o : Option (List (El t)) => o = some l → _) (fun h => by cases h) fun e h => ?_
    subst e
    have h' : l' = l := by simpa using h
    subst h'
    obtain ⟨A, e, hL⟩ := hs
    exact ⟨A, _, e, Nat.le_refl _, memR_q (qb_mono (by simp) (Nat.le_refl _)) hL⟩
  · injection h with h; subst h
    obtain ⟨A, e⟩ := hs
    exact ⟨A, 0, e, Nat.le_refl _, fun i y hy => by simp at hy⟩
  · rename_i n m
    cases hn : Nat.beq n 0 with
    | false => rw [hn] at h; cases h
    | true =>
      rw [hn] at h
      injection h with h; subst h
      have := Nat.eq_of_beq_eq_true hn
      subst this
      exact ⟨none, m, hs, Nat.zero_le _, fun i y hy => by simp at hy⟩
  · cases h
def shR (t : Ty) : Sh (List (El t)) := ⟨gR t, fun l => .rl false t l, fun _ _ h c vs hs => gR_ok h c vs hs⟩
/-- Text. -/
def gS : AV → Option ByteArray
  | .v (.string b) => some b
  | _ => none
def shS8 : Sh ByteArray := .mk' gS (fun b => .v (.string b)) (fun v x h => by
  unfold gS at h
  split at h
  · injection h with h; subst h; rfl
  · cases h)
/-- Own cells, own rows, by their places. -/
def gPtr (i o : Nat) : AV → Option Unit
  | .ptr j p => bif Nat.beq i j && Nat.beq o p then some () else none
  | _ => none
def shPtr (i o : Nat) : Sh Unit := .mk' (gPtr i o) (fun _ => .ptr i o) (fun v x h => by
  unfold gPtr at h
  split at h
  · rename_i j p
    cases hb : (Nat.beq i j && Nat.beq o p) with
    | false => rw [hb] at h; cases h
    | true =>
      simp only [Bool.and_eq_true] at hb
      rw [Nat.eq_of_beq_eq_true hb.1, Nat.eq_of_beq_eq_true hb.2]
  · cases h)
def gOw (i k : Nat) : AV → Option Nat
  | .ow j k' n => bif Nat.beq i j && Nat.beq k k' then some n else none
  | _ => none
def shOw (i k : Nat) : Sh Nat := .mk' (gOw i k) (fun n => .ow i k n) (fun v x h => by
  unfold gOw at h
  split at h
  · rename_i j k' n
    cases hb : (Nat.beq i j && Nat.beq k k') with
    | false => rw [hb] at h; cases h
    | true =>
      rw [hb] at h
      injection h with h; subst h
      simp only [Bool.and_eq_true] at hb
      rw [Nat.eq_of_beq_eq_true hb.1, Nat.eq_of_beq_eq_true hb.2]
  · cases h)

/-- Cells of numbers. -/
def gL : Nat → AV → Option (List Int)
  | 0, .nil => some []
  | n + 1, .cons (.v (.int .i64 x)) r => (gL n r).map (x :: ·)
  | _, _ => none
def pL : List Int → AV
  | [] => .nil
  | x :: r => .cons (.v (.int .i64 x)) (pL r)
theorem gL_ok : ∀ (n : Nat) {v : AV} {l : List Int}, gL n v = some l → v = pL l ∧ l.length = n
  | 0, v, l, h => by
    unfold gL at h
    split at h
    · injection h with h; subst h; exact ⟨rfl, rfl⟩
    · rename_i h1; cases h1
    · cases h
  | n + 1, v, l, h => by
    unfold gL at h
    split at h
    · rename_i h1; cases h1
    · rename_i m x r h1
      injection h1 with h1; subst h1
      simp only [Option.map_eq_some_iff] at h
      obtain ⟨q, hq, rfl⟩ := h
      obtain ⟨e, hl⟩ := gL_ok n hq
      exact ⟨by rw [e]; rfl, by simp [hl]⟩
    · cases h
/-- Structs that rows hold. -/
def gT (t : Ty) : AV → Option (El t)
  | .agg l => decK t l none fun _ x => some x
  | _ => none
def shT (t : Ty) : Sh (El t) := ⟨gT t, fun x => .agg (encC false t x), fun v x h c vs hs => by
  unfold gT at h
  split at h
  · rename_i l
    obtain ⟨cs, e, hs⟩ := hs
    revert h
    refine decK_ok (P := fun o : Option (El t) => o = some x → _) (fun h => by cases h) t l _ _ hs fun q y hy h => ?_
    have h' : y = x := by simpa using h
    subst h'
    exact ⟨cs, e, encC_ok t y _ (memE_q (qb_mono (by simp) (Nat.le_refl _)) hy)⟩
  · cases h⟩
/-- A function. -/
def gF (f : FuncId) : AV → Option Unit
  | .fn g .nil => bif Nat.beq f g then some () else none
  | _ => none
def shF (f : FuncId) : Sh Unit := .mk' (gF f) (fun _ => .fn f .nil) (fun v x h => by
  unfold gF at h
  split at h
  · rename_i g
    cases hb : Nat.beq f g with
    | false => rw [hb] at h; cases h
    | true => rw [Nat.eq_of_beq_eq_true hb]
  · cases h)
/-- One cell that is only read; the cells of a struct that are. -/
def shRp {α : Type} (A : Sh α) : Sh α := ⟨fun | .rp 1 e 0 => A.get (e 0) | _ => none, fun a => .rp 1 (fun _ => A.put a) 0, fun v x h c vs hs => by
  split at h
  · rename_i e
    obtain ⟨b, q, hv, hO, hb, hc⟩ := hs
    refine ⟨b, q, hv, hO, hb, fun j hj => ?_⟩
    have : j = 0 := by omega
    subst this
    obtain ⟨y, hy, hsy⟩ := hc 0 (by omega)
    exact ⟨y, hy, A.ok _ _ h _ _ hsy⟩
  · cases h⟩

/-- How own objects stand. -/
structure ShO (α : Type) where
  get : AO → Option α
  put : α → AO
  ok : ∀ v x, get v = some x → v = put x
def shC {α : Type} (A : AV → Option α) (p : α → AV) (ok : ∀ v x, A v = some x → v = p x) : ShO α := ⟨fun | .cells (.cons v .nil) => A v | _ => none, fun a => .cells (.cons (p a) .nil), fun v x h => by
  split at h
  · rw [ok _ _ h]
  · cases h⟩
def shRow (t : Ty) (e : TypeId) : ShO (Bool × List (El t)) := ⟨fun | .row q t' e' l => bif Nat.beq e' e then castK t' t l none (fun l => some (q, l)) else none | _ => none, fun a => .row a.1 t e a.2, fun v x h => by
  split at h
  · rename_i q t' e' l
    cases he : Nat.beq e' e with
    | false => rw [he] at h; cases h
    | true =>
      rw [he] at h
      have := Nat.eq_of_beq_eq_true he
      subst this
      simp only [cond_true] at h
      revert h
      refine castK_ok (P := fun o : Option (Bool × List (El t)) => o = some x → _) (fun h => by cases h) fun e2 h => ?_
      subst e2
      have h' : (q, l) = x := by simpa using h
      subst h'
      rfl
  · cases h⟩

/-- What a function takes, and what it gives. -/
inductive Sig : Type 1 where
  | done (r : CR)
  | arg {α : Type} (A : Sh α) (k : α → Sig)
  | obj {α : Type} (A : ShO α) (k : α → Sig)
def Sig.con : Sig → Con
  | .done r, .nil, [] => some r
  | .arg A k, .cons x l, hp => match A.get x with
    | some a => (k a).con l hp
    | none => none
  | .obj A k, l, o :: hp => match A.get o with
    | some a => (k a).con l hp
    | none => none
  | _, _, _ => none
def Sig.all (N : Nat) (run : AV → List AO → CR → Prop) : Sig → Nat → (AV → AV) → List AO → Prop
  | .done r, n, acc, os => Nat.ble n N = true ∧ (r.pre → run (acc .nil) os r)
  | .arg A k, n, acc, os => ∀ a, (k a).all N run (n + 1) (fun l => acc (.cons (A.put a) l)) os
  | .obj A k, n, acc, os => ∀ a, (k a).all N run n acc (snoc os (A.put a))

theorem Sig.all_ok {N : Nat} {run : AV → List AO → CR → Prop} : ∀ (s : Sig) (n : Nat) (acc : AV → AV) (os : List AO), (∀ l m, lenIs l m = true → lenIs (acc l) (n + m) = true) → s.all N run n acc os →
    ∀ l hp r, s.con l hp = some r → r.pre → ∃ l' m, lenIs (acc l') (n + m) = true ∧ n + m ≤ N ∧ (∀ c vs, sat l c vs → sat l' c vs) ∧ run (acc l') (os ++ hp) r
  | .done r0, n, acc, os, hl, ⟨h1, h2⟩, l, hp, r, h, hpre => by
    unfold Sig.con at h
    split at h
    · rename_i r1 e1
      injection e1 with e1
      injection h with h
      subst e1 h
      exact ⟨.nil, 0, hl .nil 0 rfl, Nat.le_of_ble_eq_true h1, fun c vs hs => hs, by simpa using h2 hpre⟩
    · rename_i h1; cases h1
    · rename_i h1; cases h1
    · cases h
  | .arg A k, n, acc, os, hl, hall, l, hp, r, h, hpre => by
    unfold Sig.con at h
    split at h
    · rename_i h1; cases h1
    · rename_i A' k' x l' h1
      cases h1
      split at h
      · rename_i a ha
        obtain ⟨l2, m, q1, q2, q3, q4⟩ := Sig.all_ok (k a) (n + 1) (fun l => acc (.cons (A.put a) l)) os (fun l m hm => by rw [show n + 1 + m = n + (m + 1) by omega]; exact hl _ _ hm) (hall a) _ _ r h hpre
        refine ⟨.cons (A.put a) l2, m + 1, by rw [show n + (m + 1) = n + 1 + m by omega]; exact q1, by omega, fun c vs hs => ?_, q4⟩
        obtain ⟨v, rest, e, h1, h2⟩ := hs
        exact ⟨v, rest, e, A.ok _ _ ha _ _ h1, q3 c rest h2⟩
      · cases h
    · rename_i h1; cases h1
    · cases h
  | .obj A k, n, acc, os, hl, hall, l, hp, r, h, hpre => by
    unfold Sig.con at h
    split at h
    · rename_i h1; cases h1
    · rename_i h1; cases h1
    · rename_i A' k' l' o hp' h1
      cases h1
      split at h
      · rename_i a ha
        have e := A.ok _ _ ha
        subst e
        obtain ⟨l2, m, q1, q2, q3, q4⟩ := Sig.all_ok (k a) n acc (snoc os (A.put a)) hl (hall a) _ _ r h hpre
        refine ⟨l2, m, q1, q2, q3, ?_⟩
        rw [snoc_eq] at q4
        simpa using q4
      · cases h
    · cases h

/-- **A function's contract**, by what it takes and gives, out of the run of its code. -/
theorem fnOkS {P : Program} (hm : P.follows .mixedOrders = true) {tys : List (TypeId × TI)} (hT : AllTy P tys) {cs : List (FuncId × Con)} (hC : AllFn P cs) {f : FuncId} {fn : Func} (hf : P.funcs[f]? = some fn) {co : Code} (hb : fn.body = some co)
    (hname : (fn.name == "runtime.NumGoroutine") = false) {N : Nat} (hN : fn.ntmps = N) (s : Sig) (fs : List FuncId := [])
    (h : s.all N (fun l os r => runT ⟨tys, N, cOf cs, hasN fs, lenO os⟩ co (argF l 0) os (lenO os) (fin ⟨tys, N, cOf cs, hasN fs, lenO os⟩ fn.results.toList r)) 0 id []) : FnOk P f s.con := by
  refine fnOk hm hT hC hf hb hname hN fs fun l hp r hk hpre => ?_
  obtain ⟨l', m, h1, h2, h3, h4⟩ := Sig.all_ok s 0 id [] (fun l m hm => by simpa using hm) h l hp r hk hpre
  exact ⟨l', hp, 0 + m, h1, h2, rfl, fun c vs hs ho => ⟨h3 c vs hs, ho⟩, by simpa using h4⟩

end Go.Proofs.Ythlkhjfilfdpiaa.Eng
