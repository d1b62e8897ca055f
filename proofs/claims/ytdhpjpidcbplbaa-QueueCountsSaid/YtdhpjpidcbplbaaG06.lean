/- Parts of the proof, joined: no conditions of their own. -/
import Derived.WalkKit
import Derived.ProofKit
import Derived.OpenShut
import Derived.ChangeOld
import Derived.Below
import Derived.Carry
import Derived.Test.YtdhpjpidcbplbaaProg
import Derived.PlainAid
import Derived.Sort.MapsRangeIn
import Derived.OwnWalkIn
import Derived.TacticsInMore
import Derived.RegionIn
import Derived.LoopNIn
import Derived.LoopIn
import Derived.RangeFuncGives
import Derived.Maps.AppendAt
import Derived.RangeFuncBound
import Derived.Shelf.SlIter.Collect
import Derived.Shelf.Lay
import Derived.Shelf.SlSortCmp.NoneTotal
import Derived.Ground.SlsfProg
import Derived.Test.YtdhpjpidcbplbaaG05
set_option linter.unusedVariables false
set_option linter.unusedSimpArgs false
/- ENGINE 2, 14: what a function takes and gives, told by shapes. -/
namespace Go.Proofs.Ytdhpjpidcbplbaa.Eng
open Go Go.RowKit
theorem pk1 {x w : Bool} : true = true → x = w → (x == w) = true := fun _ h => by simp [h]
theorem pk2 {g x w : Bool} : g = true → x = w → (g && (x == w)) = true := fun h1 h2 => by simp [h1, h2]
theorem pk3 {g x : Bool} : (g && x) = true → g = true := fun h => by simp at h; exact h.1
theorem pk4 {g x y : Bool} : ((g && x) && y) = true → g = true := fun h => pk3 (pk3 h)
theorem pk5 {g x y z : Bool} : (((g && x) && y) && z) = true → g = true := fun h => pk3 (pk4 h)
theorem pk6 {g x y z v : Bool} : ((((g && x) && y) && z) && v) = true → g = true := fun h => pk3 (pk5 h)
structure Sh (α : Type) where
  get : AV → Option α
  put : α → AV
  ok : ∀ v x, get v = some x → ∀ c vs, sat v c vs → sat (put x) c vs
def Sh.mk' {α : Type} (get : AV → Option α) (put : α → AV) (ok : ∀ v x, get v = some x → v = put x) : Sh α := ⟨get, put, fun v x h c vs hs => by rw [← ok v x h]; exact hs⟩
abbrev I (n : Int) : AV := .v (.int .i64 n)
abbrev U8 (n : Int) : AV := .v (.int .u8 n)
abbrev B (b : Bool) : AV := .v (.bool b)
def gK (k : IntKind) : AV → Option Int
  | .v (.int l n) => if l = k then some n else none
  | _ => none
theorem gK_ok {k : IntKind} {v : AV} {n : Int} (h : gK k v = some n) : v = .v (.int k n) := by
  unfold gK at h
  split at h
  · split at h
    · rename_i e; injection h with h; subst e h; rfl
    · cases h
  · cases h
def shK (k : IntKind) : Sh Int := .mk' (gK k) (fun n => .v (.int k n)) (fun _ _ h => gK_ok h)
def shI : Sh Int := shK .i64
def gB : AV → Option Bool
  | .v (.bool b) => some b
  | _ => none
theorem gB_ok {v : AV} {b : Bool} (h : gB v = some b) : v = .v (.bool b) := by
  unfold gB at h
  split at h
  · injection h with h; subst h; rfl
  · cases h
def shB : Sh Bool := .mk' gB (fun b => .v (.bool b)) (fun _ _ h => gB_ok h)
def gR (t : Ty) : AV → Option (List (El t))
  | .rl _ t' l => castK t' t l none some
  | .rc _ t' l => castK t' t l none some
  | .em => some []
  | .v (.slice none n _) => bif Nat.beq n 0 then some [] else none
  | _ => none
theorem gR_ok {t : Ty} {v : AV} {l : List (El t)} (h : gR t v = some l) (c : Cx) (vs : List Value) (hs : sat v c vs) : sat (.rl false t l) c vs := by
  unfold gR at h
  split at h
  · rename_i q t' l'
    revert h
    refine castK_ok (P := fun o : Option (List (El t)) => o = some l → _) (fun h => by cases h) fun e h => ?_
    subst e
    have h' : l' = l := by simpa using h
    subst h'
    obtain ⟨A, m, e, hm, hL⟩ := hs
    exact ⟨A, m, e, hm, memR_q (qb_mono (by simp) (Nat.le_refl _)) hL⟩
  · rename_i q t' l'
    revert h
    refine castK_ok (P := fun o : Option (List (El t)) => o = some l → _) (fun h => by cases h) fun e h => ?_
    subst e
    have h' : l' = l := by simpa using h
    subst h'
    obtain ⟨A, e, hL⟩ := hs
    exact ⟨A, _, e, Nat.le_refl _, memR_q (qb_mono (by simp) (Nat.le_refl _)) hL⟩
  · injection h with h; subst h
    obtain ⟨A, e⟩ := hs
    exact ⟨A, 0, e, Nat.le_refl _, fun i y hy => by simp at hy⟩
  · rename_i n m
    cases hn : Nat.beq n 0 with
    | false => rw [hn] at h; cases h
    | true =>
      rw [hn] at h
      injection h with h; subst h
      have := Nat.eq_of_beq_eq_true hn
      subst this
      exact ⟨none, m, hs, Nat.zero_le _, fun i y hy => by simp at hy⟩
  · cases h
def shR (t : Ty) : Sh (List (El t)) := ⟨gR t, fun l => .rl false t l, fun _ _ h c vs hs => gR_ok h c vs hs⟩
def gS : AV → Option ByteArray
  | .v (.string b) => some b
  | _ => none
def shS8 : Sh ByteArray := .mk' gS (fun b => .v (.string b)) (fun v x h => by
  unfold gS at h
  split at h
  · injection h with h; subst h; rfl
  · cases h)
def gPtr (i o : Nat) : AV → Option Unit
  | .ptr j p => bif Nat.beq i j && Nat.beq o p then some () else none
  | _ => none
def shPtr (i o : Nat) : Sh Unit := .mk' (gPtr i o) (fun _ => .ptr i o) (fun v x h => by
  unfold gPtr at h
  split at h
  · rename_i j p
    cases hb : (Nat.beq i j && Nat.beq o p) with
    | false => rw [hb] at h; cases h
    | true =>
      simp only [Bool.and_eq_true] at hb
      rw [Nat.eq_of_beq_eq_true hb.1, Nat.eq_of_beq_eq_true hb.2]
  · cases h)
def gOw (i k : Nat) : AV → Option Nat
  | .ow j k' n => bif Nat.beq i j && Nat.beq k k' then some n else none
  | _ => none
def shOw (i k : Nat) : Sh Nat := .mk' (gOw i k) (fun n => .ow i k n) (fun v x h => by
  unfold gOw at h
  split at h
  · rename_i j k' n
    cases hb : (Nat.beq i j && Nat.beq k k') with
    | false => rw [hb] at h; cases h
    | true =>
      rw [hb] at h
      injection h with h; subst h
      simp only [Bool.and_eq_true] at hb
      rw [Nat.eq_of_beq_eq_true hb.1, Nat.eq_of_beq_eq_true hb.2]
  · cases h)
def gL : Nat → AV → Option (List Int)
  | 0, .nil => some []
  | n + 1, .cons (.v (.int .i64 x)) r => (gL n r).map (x :: ·)
  | _, _ => none
def pL : List Int → AV
  | [] => .nil
  | x :: r => .cons (.v (.int .i64 x)) (pL r)
theorem gL_ok : ∀ (n : Nat) {v : AV} {l : List Int}, gL n v = some l → v = pL l ∧ l.length = n
  | 0, v, l, h => by
    unfold gL at h
    split at h
    · injection h with h; subst h; exact ⟨rfl, rfl⟩
    · rename_i h1; cases h1
    · cases h
  | n + 1, v, l, h => by
    unfold gL at h
    split at h
    · rename_i h1; cases h1
    · rename_i m x r h1
      injection h1 with h1; subst h1
      simp only [Option.map_eq_some_iff] at h
      obtain ⟨q, hq, rfl⟩ := h
      obtain ⟨e, hl⟩ := gL_ok n hq
      exact ⟨by rw [e]; rfl, by simp [hl]⟩
    · cases h
def gT (t : Ty) : AV → Option (El t)
  | .agg l => decK t l none fun _ x => some x
  | _ => none
def shT (t : Ty) : Sh (El t) := ⟨gT t, fun x => .agg (encC false t x), fun v x h c vs hs => by
  unfold gT at h
  split at h
  · rename_i l
    obtain ⟨cs, e, hs⟩ := hs
    revert h
    refine decK_ok (P := fun o : Option (El t) => o = some x → _) (fun h => by cases h) t l _ _ hs fun q y hy h => ?_
    have h' : y = x := by simpa using h
    subst h'
    exact ⟨cs, e, encC_ok t y _ (memE_q (qb_mono (by simp) (Nat.le_refl _)) hy)⟩
  · cases h⟩
def gF (f : FuncId) : AV → Option Unit
  | .fn g .nil => bif Nat.beq f g then some () else none
  | _ => none
def shF (f : FuncId) : Sh Unit := .mk' (gF f) (fun _ => .fn f .nil) (fun v x h => by
  unfold gF at h
  split at h
  · rename_i g
    cases hb : Nat.beq f g with
    | false => rw [hb] at h; cases h
    | true => rw [Nat.eq_of_beq_eq_true hb]
  · cases h)
def shRp {α : Type} (A : Sh α) : Sh α := ⟨fun | .rp 1 e 0 => A.get (e 0) | _ => none, fun a => .rp 1 (fun _ => A.put a) 0, fun v x h c vs hs => by
  split at h
  · rename_i e
    obtain ⟨b, q, hv, hO, hb, hc⟩ := hs
    refine ⟨b, q, hv, hO, hb, fun j hj => ?_⟩
    have : j = 0 := by omega
    subst this
    obtain ⟨y, hy, hsy⟩ := hc 0 (by omega)
    exact ⟨y, hy, A.ok _ _ h _ _ hsy⟩
  · cases h⟩
def rpT (t : Ty) (x : El t) : AV := .rp (tsz t) (fun y => nthD (encC false t x) y) 0
def gRpT (t : Ty) : AV → Option (El t)
  | .rp k e 0 => bif Nat.beq k (tsz t) then decK t (ofFn e 0 k) none (fun _ x => some x) else none
  | _ => none
theorem gRpT_ok {t : Ty} {v : AV} {x : El t} (h : gRpT t v = some x) (c : Cx) (vs : List Value) (hs : sat v c vs) : sat (rpT t x) c vs := by
  unfold gRpT at h
  split at h
  · rename_i k e
    cases hk : Nat.beq k (tsz t) with
    | false => rw [hk] at h; cases h
    | true =>
      rw [hk] at h
      have hk := Nat.eq_of_beq_eq_true hk
      subst hk
      simp only [cond_true] at h
      obtain ⟨b, q, hv, hO, hb, hc⟩ := hs
      have hall : ∃ cs : List Value, cs.length = tsz t ∧ ∀ j, j < tsz t → ∃ y, c.w.cell? ⟨b, q + j, none⟩ = some y ∧ cs[j]? = some y ∧ sat (e j) c.bare [y] := by
        refine ⟨(List.range (tsz t)).map fun j => (c.w.cell? ⟨b, q + j, none⟩).getD (.bool false), by simp, fun j hj => ?_⟩
        obtain ⟨y, hy, hsy⟩ := hc j hj
        exact ⟨y, hy, by simp [hj, hy], hsy⟩
      obtain ⟨cs, hl, hcs⟩ := hall
      have hsat : sat (ofFn e 0 (tsz t)) c.bare cs := ofFn_ok _ _ hl fun j hj => by
        obtain ⟨y, _, h2, h3⟩ := hcs j hj
        exact ⟨y, h2, by rw [Nat.zero_add]; exact h3⟩
      revert h
      refine decK_ok (c := c.bare) (P := fun o : Option (El t) => o = some x → _) (fun h => by cases h) t _ _ _ hsat fun q' y hy h => ?_
      have h' : y = x := by simpa using h
      subst h'
      have he : sat (encC false t y) c.bare cs := encC_ok t y _ (memE_q (qb_mono (by simp) (Nat.le_refl _)) hy)
      refine ⟨b, q, hv, hO, hb, fun j hj => ?_⟩
      obtain ⟨z, h1, h2, _⟩ := hcs j hj
      exact ⟨z, h1, nth_len _ j he ⟨_, encC_len false t y⟩ h2⟩
  · cases h
def shRpT (t : Ty) : Sh (El t) := ⟨gRpT t, rpT t, fun _ _ h c vs hs => gRpT_ok h c vs hs⟩
structure ShO (α : Type) where
  get : AO → Option α
  put : α → AO
  ok : ∀ v x, get v = some x → v = put x
def shC {α : Type} (A : AV → Option α) (p : α → AV) (ok : ∀ v x, A v = some x → v = p x) : ShO α := ⟨fun | .cells (.cons v .nil) => A v | _ => none, fun a => .cells (.cons (p a) .nil), fun v x h => by
  split at h
  · rw [ok _ _ h]
  · cases h⟩
def shRow (t : Ty) (e : TypeId) : ShO (Bool × List (El t)) := ⟨fun | .row q t' e' l => bif Nat.beq e' e then castK t' t l none (fun l => some (q, l)) else none | _ => none, fun a => .row a.1 t e a.2, fun v x h => by
  split at h
  · rename_i q t' e' l
    cases he : Nat.beq e' e with
    | false => rw [he] at h; cases h
    | true =>
      rw [he] at h
      have := Nat.eq_of_beq_eq_true he
      subst this
      simp only [cond_true] at h
      revert h
      refine castK_ok (P := fun o : Option (Bool × List (El t)) => o = some x → _) (fun h => by cases h) fun e2 h => ?_
      subst e2
      have h' : (q, l) = x := by simpa using h
      subst h'
      rfl
  · cases h⟩
inductive SigP (ρ : Type) : Type 1 where
  | done (r : ρ)
  | arg {α : Type} (A : Sh α) (k : α → SigP ρ)
  | obj {α : Type} (A : ShO α) (k : α → SigP ρ)
abbrev Sig := SigP CR
abbrev SigD := SigP CRD
def SigP.get {ρ : Type} : SigP ρ → AV → List AO → Option ρ
  | .done r, .nil, [] => some r
  | .arg A k, .cons x l, hp => match A.get x with
    | some a => (k a).get l hp
    | none => none
  | .obj A k, l, o :: hp => match A.get o with
    | some a => (k a).get l hp
    | none => none
  | _, _, _ => none
def SigP.all {ρ : Type} (N : Nat) (pre : ρ → Prop) (run : AV → List AO → ρ → Prop) : SigP ρ → Nat → (AV → AV) → List AO → Prop
  | .done r, n, acc, os => Nat.ble n N = true ∧ (pre r → run (acc .nil) os r)
  | .arg A k, n, acc, os => ∀ a, (k a).all N pre run (n + 1) (fun l => acc (.cons (A.put a) l)) os
  | .obj A k, n, acc, os => ∀ a, (k a).all N pre run n acc (snoc os (A.put a))
def SigP.con (s : Sig) : Con := s.get
def SigP.conD (s : SigD) : ConD := s.get
theorem SigP.all_ok {ρ : Type} {N : Nat} {pre : ρ → Prop} {run : AV → List AO → ρ → Prop} : ∀ (s : SigP ρ) (n : Nat) (acc : AV → AV) (os : List AO), (∀ l m, lenIs l m = true → lenIs (acc l) (n + m) = true) → s.all N pre run n acc os →
    ∀ l hp r, s.get l hp = some r → pre r → ∃ l' m, lenIs (acc l') (n + m) = true ∧ n + m ≤ N ∧ (∀ c vs, sat l c vs → sat l' c vs) ∧ run (acc l') (os ++ hp) r
  | .done r0, n, acc, os, hl, ⟨h1, h2⟩, l, hp, r, h, hpre => by
    unfold SigP.get at h
    split at h
    · rename_i r1 e1
      injection e1 with e1
      injection h with h
      subst e1 h
      exact ⟨.nil, 0, hl .nil 0 rfl, Nat.le_of_ble_eq_true h1, fun c vs hs => hs, by simpa using h2 hpre⟩
    · rename_i h1; cases h1
    · rename_i h1; cases h1
    · cases h
  | .arg A k, n, acc, os, hl, hall, l, hp, r, h, hpre => by
    unfold SigP.get at h
    split at h
    · rename_i h1; cases h1
    · rename_i A' k' x l' h1
      cases h1
      split at h
      · rename_i a ha
        obtain ⟨l2, m, q1, q2, q3, q4⟩ := SigP.all_ok (k a) (n + 1) (fun l => acc (.cons (A.put a) l)) os (fun l m hm => by rw [show n + 1 + m = n + (m + 1) by omega]; exact hl _ _ hm) (hall a) _ _ r h hpre
        refine ⟨.cons (A.put a) l2, m + 1, by rw [show n + (m + 1) = n + 1 + m by omega]; exact q1, by omega, fun c vs hs => ?_, q4⟩
        obtain ⟨v, rest, e, h1, h2⟩ := hs
        exact ⟨v, rest, e, A.ok _ _ ha _ _ h1, q3 c rest h2⟩
      · cases h
    · rename_i h1; cases h1
    · cases h
  | .obj A k, n, acc, os, hl, hall, l, hp, r, h, hpre => by
    unfold SigP.get at h
    split at h
    · rename_i h1; cases h1
    · rename_i h1; cases h1
    · rename_i A' k' l' o hp' h1
      cases h1
      split at h
      · rename_i a ha
        have e := A.ok _ _ ha
        subst e
        obtain ⟨l2, m, q1, q2, q3, q4⟩ := SigP.all_ok (k a) n acc (snoc os (A.put a)) hl (hall a) _ _ r h hpre
        refine ⟨l2, m, q1, q2, q3, ?_⟩
        rw [snoc_eq] at q4
        simpa using q4
      · cases h
    · cases h
theorem fnOkS {P : Program} (hm : P.follows .mixedOrders = true) {tys : List (TypeId × TI)} (hT : AllTy P tys) {cs : List (FuncId × Con)} (hC : AllFn P cs) {f : FuncId} {fn : Func} (hf : P.funcs[f]? = some fn) {co : Code} (hb : fn.body = some co)
    (hname : (fn.name == "runtime.NumGoroutine") = false) {N : Nat} (hN : fn.ntmps = N) (s : Sig) (fs : List FuncId := []) (ms : List FuncId := []) (fz : Bool := false) (csd : List (FuncId × ConD) := []) (hD : AllFnD P csd := by exact trivial)
    (h : s.all N (fun r => r.pre) (fun l os r => runT ⟨tys, N, cOf cs, hasN fs, lenO os, ms, fz, keysD csd, cOfD csd⟩ co (argF l 0) os (lenO os) (fin ⟨tys, N, cOf cs, hasN fs, lenO os, ms, fz, keysD csd, cOfD csd⟩ fn.results.toList r)) 0 id []) : FnOk P f s.con := by
  refine fnOk hm hT hC hf hb hname hN fs ms fz hD fun l hp r hk hpre => ?_
  obtain ⟨l', m, h1, h2, h3, h4⟩ := SigP.all_ok s 0 id [] (fun l m hm => by simpa using hm) h l hp r hk hpre
  exact ⟨l', hp, 0 + m, h1, h2, rfl, fun c vs hs ho => ⟨h3 c vs hs, ho⟩, by simpa using h4⟩
theorem fnOkSD {P : Program} (hm : P.follows .mixedOrders = true) {tys : List (TypeId × TI)} (hT : AllTy P tys) {cs : List (FuncId × Con)} (hC : AllFn P cs) {f : FuncId} {fn : Func} (hf : P.funcs[f]? = some fn) {co : Code} (hb : fn.body = some co)
    (hname : (fn.name == "runtime.NumGoroutine") = false) {N : Nat} (hN : fn.ntmps = N) (s : SigD) (fs : List FuncId := []) (ms : List FuncId := []) (fz : Bool := false) (csd : List (FuncId × ConD) := []) (hD : AllFnD P csd := by exact trivial)
    (h : s.all N (fun r => r.pre) (fun l os r => runT ⟨tys, N, cOf cs, hasN fs, lenO os, ms, fz, keysD csd, cOfD csd⟩ co (argF l 0) os (lenO os) (finD ⟨tys, N, cOf cs, hasN fs, lenO os, ms, fz, keysD csd, cOfD csd⟩ fn.results.toList r)) 0 id []) : FnOkD P f s.conD := by
  refine fnOkD hm hT hC hf hb hname hN fs ms fz hD fun l hp r hk hpre => ?_
  obtain ⟨l', m, h1, h2, h3, h4⟩ := SigP.all_ok s 0 id [] (fun l m hm => by simpa using hm) h l hp r hk hpre
  exact ⟨l', hp, 0 + m, h1, h2, rfl, fun c vs hs ho => ⟨h3 c vs hs, ho⟩, by simpa using h4⟩
end Go.Proofs.Ytdhpjpidcbplbaa.Eng

/- ENGINE 2, 15: a law's contract as its row asks. -/
namespace Go.Proofs.Ytdhpjpidcbplbaa.Eng
open Go Go.RowKit
def cx0 (w : World) : Cx := ⟨w, fun _ => noK, fun _ => none, fun _ => .bool false, fun _ => 0, 0, fun _ => False, 0, fun _ => rfl, fun _ _ _ _ h => by cases h⟩
theorem law_calls {P : Program} {f : FuncId} {k : Con} (h : FnOk P f k) {l : AV} {p : Prop} (hk : k l [] = some ⟨p, B true, [], []⟩) (hp : p) (w : World) (args : Array Value) (hs : sat l (cx0 w) args.toList) :
    Calls P f args w fun e w' => e = .returned (.bool true) ∧ Below w.heap.size w w' := by
  refine ((h l [] _ hk hp (cx0 w) args hs (obs_none rfl (fun b hb => hb.elim) (Nat.zero_le _))).2).mono fun e w' he => ?_
  obtain ⟨x, c', rfl, rfl, hx, _, _, hres⟩ := he
  have : x = .bool true := by simpa [sat] using hres
  rw [this]
  exact ⟨rfl, (ext_below hx rfl).toBelow⟩
theorem open_row {P : Program} {w : World} {r : Reach} {b : Nat} {t : TypeId} {v : Value} {n : Nat} {ts : List TypeId} {k : IntKind} (hr : (P.underlying t).map TypeDesc.isRow = some true) (hc : P.cellsOf t = n) (hct : P.cellTypes P.depth t = some ts) (hl : ts.length = n) (hu : ∀ u ∈ ts, P.underlying u = some (.int k)) (h : Value.okWide P w r b t v) :
    ∃ l : List Int, l.length = n ∧ v = .agg (l.map (Value.int k)).toArray ∧ ∀ x ∈ l, k.has x := by
  have hrow : ∃ cs, v = .agg cs ∧ cs.size = P.cellsOf t ∧ Row.okWide P w r b t cs := by
    unfold Value.okWide at h
    cases hq : P.underlying t with
    | none => simp [hq] at hr
    | some d => cases d <;> simp [hq, TypeDesc.isRow] at hr <;> simpa [hq] using h
  obtain ⟨cs, rfl, hsz, ts', hct', _, hall⟩ := hrow
  rw [hct] at hct'; injection hct' with hct'; subst hct'
  have key : ∀ m (l : List Value), l.length = m → (∀ v ∈ l, ∃ x, v = .int k x ∧ k.has x) → ∃ xs : List Int, xs.length = m ∧ l = xs.map (Value.int k) ∧ ∀ x ∈ xs, k.has x := by
    intro m l
    induction l generalizing m with
    | nil => intro hm _; exact ⟨[], by simpa using hm, rfl, fun x hx => by cases hx⟩
    | cons v l ih =>
      intro hm hv
      obtain ⟨x, rfl, hx⟩ := hv v (by simp)
      cases m with
      | zero => simp at hm
      | succ m =>
        obtain ⟨xs, h1, h2, h3⟩ := ih m (by simpa using hm) fun u hu => hv u (by simp [hu])
        refine ⟨x :: xs, by simp [h1], by rw [h2]; rfl, fun y hy => ?_⟩
        rcases List.mem_cons.1 hy with rfl | hy
        · exact hx
        · exact h3 y hy
  obtain ⟨xs, h1, h2, h3⟩ := key n cs.toList (by simp [hsz, hc]) fun v hv => by
    obtain ⟨i, hi⟩ := List.getElem?_of_mem hv
    obtain ⟨u, hu1, hu2⟩ := hall i v (by simpa using hi)
    have hk := hu u (List.mem_of_getElem? hu1)
    unfold Cell.okWide at hu2
    rw [hk] at hu2
    cases v <;> simp [Cell.ok, hk] at hu2
    rename_i k' x
    exact ⟨x, by rw [hu2.1], hu2.2⟩
  exact ⟨xs, h1, by rw [← h2], h3⟩
theorem has_i64 {x : Int} (h : IntKind.i64.has x) : -9223372036854775808 ≤ x ∧ x ≤ 9223372036854775807 := h
theorem has_u8 {x : Int} (h : IntKind.u8.has x) : 0 ≤ x ∧ x ≤ 255 := h
theorem open_k {P : Program} {w : World} {r : Reach} {b : Nat} {t : TypeId} {v : Value} {k : IntKind} (ht : P.underlying t = some (.int k)) (h : Value.okWide P w r b t v) : ∃ x, v = .int k x ∧ k.has x := by
  unfold Value.okWide at h
  rw [ht] at h
  unfold Cell.okWide at h
  rw [ht] at h
  cases v <;> simp [Cell.ok, ht] at h
  rename_i k' x
  exact ⟨x, by rw [h.1], h.2⟩
end Go.Proofs.Ytdhpjpidcbplbaa.Eng

/- ENGINE 2, 16: what a law is handed: slices, opened. -/
namespace Go.Proofs.Ytdhpjpidcbplbaa.Eng
open Go Go.RowKit
def matchA (go : Ty → Option Ty) : Nat → Ty → Option Ty
  | 0, τ => some τ
  | n + 1, τ => match go τ with
    | some r => matchA go n r
    | none => none
def matchFs (P : Program) (go : TypeId → Ty → Option Ty) : List Field → Nat → Ty → Option (Nat × Ty)
  | [], off, τ => some (off, τ)
  | f :: fs, off, τ => if f.offset = off then (match go f.type τ with
    | some r => matchFs P go fs (off + P.cellsOf f.type) r
    | none => none) else none
def isNil : Option Ty → Bool
  | some .nil => true
  | _ => false
def matchT (P : Program) : Nat → TypeId → Ty → Option Ty
  | 0, _, _ => none
  | d + 1, t, τ => match P.underlying t, τ with
    | some .bool, .bool r => if P.cellsOf t = 1 then some r else none
    | some (.int k), .int k' r => if k = k' ∧ P.cellsOf t = 1 then some r else none
    | some .string, .str r => if P.cellsOf t = 1 then some r else none
    | some (.slice e), .sl a r => if isNil (matchT P d e a) = true ∧ P.cellsOf e = tsz a ∧ 0 < tsz a ∧ P.cellsOf t = 1 then some r else none
    | some (.struct fs), τ => (match matchFs P (matchT P d) fs.toList 0 τ with
      | some (n, r) => if n = P.cellsOf t then some r else none
      | none => none)
    | some (.array n e), τ => if n * P.cellsOf e = P.cellsOf t then matchA (matchT P d e) n τ else none
    | _, _ => none
def okT : (t : Ty) → El t → Prop
  | .nil, _ => True
  | .int k r, x => k.has x.1 ∧ okT r x.2
  | .bool r, x => okT r x.2
  | .str r, x => x.1.size ≤ maxLen ∧ okT r x.2
  | .sl a r, x => x.1.length ≤ maxLen ∧ (∀ y ∈ x.1, okT a y) ∧ okT r x.2
theorem mapM_mem {α β : Type} (F : α → Option β) : ∀ (l : List α) {xs : List β}, l.mapM F = some xs → ∀ a ∈ l, ∃ b, F a = some b
  | [], _, _, a, ha => by cases ha
  | a :: r, xs, h, a', ha => by
    rw [List.mapM_cons] at h
    cases h1 : F a with
    | none => rw [h1] at h; cases h
    | some b =>
      rw [h1] at h
      cases h2 : r.mapM F with
      | none => rw [h2] at h; cases h
      | some bs =>
        rcases List.mem_cons.1 ha with rfl | ha
        · exact ⟨b, h1⟩
        · exact mapM_mem F r h2 a' ha
theorem list_of {α : Type} (Q : Nat → α → Prop) : ∀ (n : Nat), (∀ i, i < n → ∃ y, Q i y) → ∃ l : List α, l.length = n ∧ ∀ i y, l[i]? = some y → Q i y
  | 0, _ => ⟨[], rfl, fun i y h => by simp at h⟩
  | n + 1, h => by
    obtain ⟨l, h1, h2⟩ := list_of Q n fun i hi => h i (by omega)
    obtain ⟨y, hy⟩ := h n (by omega)
    refine ⟨l ++ [y], by simp [h1], fun i z hz => ?_⟩
    by_cases hi : i < n
    · rw [List.getElem?_append_left (by omega)] at hz; exact h2 i z hz
    · rw [List.getElem?_append_right (by omega)] at hz
      have : i - l.length = 0 := by
        have := (List.getElem?_eq_some_iff.1 hz).1
        simp at this; omega
      rw [this] at hz
      simp at hz
      have : i = n := by omega
      subst this hz; exact hy
abbrev noO : Nat → Prop := fun _ => False
def Opens (w : World) (τ r : Ty) (cs : List Value) : Prop :=
  ∃ f : El r → El τ, (∀ z vs, memE w noO 0 r z vs → memE w noO 0 τ (f z) (cs ++ vs)) ∧ ∀ z, okT r z → okT τ (f z)
theorem Opens.refl {w : World} {τ : Ty} : Opens w τ τ [] := ⟨id, fun z vs h => h, fun z h => h⟩
theorem Opens.trans {w : World} {τ r s : Ty} {cs ds : List Value} (h : Opens w τ r cs) (h' : Opens w r s ds) : Opens w τ s (cs ++ ds) := by
  obtain ⟨f, h1, h2⟩ := h
  obtain ⟨g, h3, h4⟩ := h'
  exact ⟨f ∘ g, fun z vs hz => by rw [List.append_assoc]; exact h1 _ _ (h3 z vs hz), fun z hz => h2 _ (h4 z hz)⟩
theorem Opens.all {w : World} {τ : Ty} {cs : List Value} (h : Opens w τ .nil cs) : ∃ x : El τ, memE w noO 0 τ x cs ∧ okT τ x := by
  obtain ⟨f, h1, h2⟩ := h
  exact ⟨f (), by simpa using h1 () [] rfl, h2 () trivial⟩
theorem take_add' {α : Type} (l : List α) (o a b : Nat) : (l.drop o).take (a + b) = (l.drop o).take a ++ (l.drop (o + a)).take b := by
  rw [List.take_add, List.drop_drop]
section
variable {H : Type} {enc : TypeId × Value → H} {P : Program} {w : World} {sp : Nat → Bool} {held : Bool}
theorem openFs {go : TypeId → Ty → Option Ty} {cs : List Value} : ∀ (fs : List Field) (off off' : Nat) (τ r : Ty), matchFs P go fs off τ = some (off', r) →
    (∀ f ∈ fs, ∀ τ r, go f.type τ = some r → ((cs.drop f.offset).take (P.cellsOf f.type)).length = P.cellsOf f.type ∧ Opens w τ r ((cs.drop f.offset).take (P.cellsOf f.type))) →
    off ≤ off' ∧ Opens w τ r ((cs.drop off).take (off' - off))
  | [], off, off', τ, r, h, _ => by
    injection h with h; injection h with h1 h2; subst h1 h2
    exact ⟨Nat.le_refl _, by rw [Nat.sub_self, List.take_zero]; exact Opens.refl⟩
  | f :: fs, off, off', τ, r, h, hf => by
    simp only [matchFs] at h
    split at h
    · rename_i ho
      split at h
      · rename_i r1 hg
        obtain ⟨h1, h2⟩ := hf f (by simp) τ r1 hg
        obtain ⟨h3, h4⟩ := openFs fs _ _ _ _ h fun g hg => hf g (by simp [hg])
        rw [ho] at h2
        refine ⟨by omega, ?_⟩
        have := h2.trans h4
        rw [show off' - off = P.cellsOf f.type + (off' - (off + P.cellsOf f.type)) by omega, take_add']
        exact this
      · cases h
    · cases h
theorem openA {go : Ty → Option Ty} {c : Nat} {cs : List Value} : ∀ (n i : Nat) (τ r : Ty), matchA go n τ = some r →
    (∀ j, i ≤ j → j < i + n → ∀ τ r, go τ = some r → Opens w τ r ((cs.drop (j * c)).take c)) → Opens w τ r ((cs.drop (i * c)).take (n * c))
  | 0, i, τ, r, h, _ => by injection h with h; subst h; rw [Nat.zero_mul, List.take_zero]; exact Opens.refl
  | n + 1, i, τ, r, h, hj => by
    simp only [matchA] at h
    split at h
    · rename_i r1 hg
      have h1 := hj i (Nat.le_refl _) (by omega) τ r1 hg
      have h2 := openA n (i + 1) r1 r h fun j h1 h2 => hj j (by omega) (by omega)
      have := h1.trans h2
      rw [Nat.add_mul, Nat.one_mul, Nat.add_comm (n * c) c, take_add']
      rw [Nat.add_mul, Nat.one_mul] at this
      exact this
    · cases h
theorem openSl {a : Addr} {len c : Nat} {τ : Ty} (hc : c = tsz τ) (h0 : 0 < tsz τ) (h : ∀ i, i < len → ∃ cs, w.cells? 0 (a.add (i * c)) c = some cs ∧ Opens w τ .nil cs) :
    ∃ l : List (El τ), l.length = len ∧ memL w noO 0 (tsz τ) (memE w noO 0 τ) (some a) l ∧ ∀ y ∈ l, okT τ y := by
  subst hc
  obtain ⟨l, hl, hq⟩ := list_of (fun i (y : El τ) => ∃ cs, w.cells? 0 (a.add (i * tsz τ)) (tsz τ) = some cs ∧ memE w noO 0 τ y cs ∧ okT τ y) len fun i hi => by
    obtain ⟨cs, h1, h2⟩ := h i hi
    obtain ⟨x, h3, h4⟩ := h2.all
    exact ⟨x, cs, h1, h3, h4⟩
  refine ⟨l, hl, fun i y hy => ?_, fun y hy => ?_⟩
  · have hi : i < len := by have := (List.getElem?_eq_some_iff.1 hy).1; omega
    obtain ⟨cs, h1, h2, _⟩ := hq i y hy
    obtain ⟨cs0, h01, _⟩ := h 0 (by omega)
    have hsp : a.spot = none := by
      obtain ⟨_, _, he⟩ := World.cells?_some h01
      have := he 0 h0
      rw [Nat.zero_mul] at this
      have e0 : (a.add 0).add 0 = a := rfl
      rw [e0] at this
      cases hs : a.spot with
      | none => rfl
      | some s =>
        exfalso
        unfold World.cell? at this
        have hl0 : cs0.length = tsz τ := (World.cells?_some h01).2.1
        rw [List.getElem?_eq_getElem (by omega)] at this
        split at this
        · simp [hs] at this
        · cases this
    have hb := World.cells?_block h1 h0
    obtain ⟨_, hl1, he⟩ := World.cells?_some h1
    obtain ⟨ab, ao, asp⟩ := a
    simp only at hsp
    subst hsp
    rw [Addr.add_mid] at hb he
    refine ⟨⟨ab, ao, none⟩, rfl, rfl, fun h => h, hb, Nat.zero_le _, cs, hl1, fun j v hv => ?_, h2⟩
    have hj := (List.getElem?_eq_some_iff.1 hv).1
    have := he j (by omega)
    rw [Addr.add_mid] at this
    rw [this]; exact hv
  · obtain ⟨i, hi⟩ := List.getElem?_of_mem hy
    obtain ⟨_, _, _, h3⟩ := hq i y hi
    exact h3
theorem trod_bool' {t : TypeId} {n : Nat} {cs : List Value} {x : DataW H × List MemPlace} (ht : P.underlying t = some .bool) (h : DataW.trod enc P w 0 sp held n t cs = some x) : ∃ b, cs = [.bool b] := by
  cases n with
  | zero => simp [DataW.trod] at h
  | succ n =>
    unfold DataW.trod at h
    rw [ht] at h
    split at h <;> simp_all
theorem trod_int' {t : TypeId} {k : IntKind} {n : Nat} {cs : List Value} {x : DataW H × List MemPlace} (ht : P.underlying t = some (.int k)) (h : DataW.trod enc P w 0 sp held n t cs = some x) : ∃ z, cs = [.int k z] ∧ k.has z := by
  cases n with
  | zero => simp [DataW.trod] at h
  | succ n =>
    unfold DataW.trod at h
    rw [ht] at h
    split at h <;> simp_all [Lit.wf, IntKind.has]
theorem trod_str' {t : TypeId} {n : Nat} {cs : List Value} {x : DataW H × List MemPlace} (ht : P.underlying t = some .string) (h : DataW.trod enc P w 0 sp held n t cs = some x) : ∃ s, cs = [.string s] ∧ s.size ≤ maxLen := by
  cases n with
  | zero => simp [DataW.trod] at h
  | succ n =>
    unfold DataW.trod at h
    rw [ht] at h
    split at h <;> simp_all
theorem openT : ∀ (d : Nat) (t : TypeId) (τ r : Ty), matchT P d t τ = some r → ∀ (n : Nat) (cs : List Value) x, DataW.trod enc P w 0 sp held n t cs = some x → cs.length = P.cellsOf t ∧ Opens w τ r cs
  | 0, _, _, _, h, _, _, _, _ => by cases h
  | d + 1, t, τ, r, h, n, cs, x, hx => by
    unfold matchT at h
    split at h
    · rename_i r' hu
      split at h
      · rename_i hc
        injection h with h; subst h
        obtain ⟨b, rfl⟩ := trod_bool' hu hx
        exact ⟨hc.symm, fun z => (b, z), fun z vs hz => ⟨vs, rfl, hz⟩, fun z hz => hz⟩
      · cases h
    · rename_i k k' r' hu
      split at h
      · rename_i hc
        injection h with h; subst h
        obtain ⟨b, rfl, hb⟩ := trod_int' hu hx
        obtain ⟨rfl, hc⟩ := hc
        exact ⟨hc.symm, fun z => (b, z), fun z vs hz => ⟨vs, rfl, hz⟩, fun z hz => ⟨hb, hz⟩⟩
      · cases h
    · rename_i r' hu
      split at h
      · rename_i hc
        injection h with h; subst h
        obtain ⟨b, rfl, hb⟩ := trod_str' hu hx
        exact ⟨hc.symm, fun z => (b, z), fun z vs hz => ⟨vs, rfl, hz⟩, fun z hz => ⟨hb, hz⟩⟩
      · cases h
    · rename_i e a r' hu
      split at h
      · rename_i hc
        obtain ⟨hm, hc1, hc2, hc3⟩ := hc
        injection h with h; subst h
        have hm' : matchT P d e a = some .nil := by
          unfold isNil at hm
          split at hm
          · assumption
          · cases hm
        rcases DataW.trod_slice hu hx with ⟨rfl, _⟩ | ⟨ad, len, cap, elems, rest, n', _, rfl, rfl, hb, hl, hmx, hlen, hel, _⟩
        · exact ⟨hc3.symm, fun z => ([], z), fun z vs hz => ⟨none, 0, vs, rfl, Nat.le_refl _, fun i y hy => by simp at hy, hz⟩, fun z hz => ⟨Nat.zero_le _, (fun y hy => (by cases hy)), hz⟩⟩
        · obtain ⟨l, h1, h2, h3⟩ := openSl (w := w) (a := ad) (len := len) (τ := a) hc1 hc2 fun i hi => by
            have := hel i hi
            rw [List.getElem?_eq_getElem (by omega)] at this
            cases hcs : w.cells? 0 (ad.add (i * P.cellsOf e)) (P.cellsOf e) with
            | none => rw [hcs] at this; cases this
            | some cs =>
              rw [hcs] at this
              exact ⟨cs, rfl, (openT d e a .nil hm' _ _ _ this).2⟩
          exact ⟨hc3.symm, fun z => (l, z), fun z vs hz => ⟨some ad, cap, vs, by rw [h1]; rfl, by rw [h1]; exact hl, h2, hz⟩, fun z hz => ⟨by rw [h1]; omega, h3, hz⟩⟩
      · cases h
    · rename_i τ fs hu
      split at h
      · rename_i m r' hf
        split at h
        · rename_i hm
          injection h with h; subst h hm
          obtain ⟨xs, n', _, rfl, hl, hlen, hfs⟩ := DataW.trod_struct hu hx
          have := openFs (w := w) (cs := cs) fs.toList 0 _ _ r' hf fun f hfm τ r hg => by
            obtain ⟨i, hi⟩ := List.getElem?_of_mem hfm
            have h1 := hfs i f (by simpa using hi)
            have hil : i < xs.length := by have := (List.getElem?_eq_some_iff.1 hi).1; simp at this; omega
            rw [List.getElem?_eq_getElem hil] at h1
            exact openT d f.type τ r hg _ _ _ h1
          rw [List.drop_zero, Nat.sub_zero, ← hl, List.take_length] at this
          exact ⟨hl, this.2⟩
        · cases h
      · cases h
    · rename_i τ m e hu
      split at h
      · rename_i hm
        obtain ⟨xs, n', _, rfl, hl, hlen, hfs⟩ := DataW.trod_array hu hx
        have := openA (w := w) (c := P.cellsOf e) (cs := cs) m 0 _ r h fun j _ hj τ r hg => by
          have h1 := hfs j (by omega)
          rw [List.getElem?_eq_getElem (by omega)] at h1
          exact (openT d e τ r hg _ _ _ h1).2
        rw [Nat.zero_mul, List.drop_zero, hm, ← hl, List.take_length] at this
        exact ⟨hl, this⟩
      · cases h
    · cases h
theorem open_rl {T e : TypeId} {τ : Ty} {v : Value} {d : DataW H} {ps : List MemPlace} {k : Nat} (hu : P.underlying T = some (.slice e)) (hm : isNil (matchT P k e τ) = true) (hc : P.cellsOf e = tsz τ) (h0 : 0 < tsz τ) (hw : ∃ a len cap, v = .slice a len cap) (h : DataW.Trod enc P w 0 sp held T v d ps) :
    ∃ l : List (El τ), sat ((shR τ).put l) (cx0 w) [v] ∧ l.length ≤ maxLen ∧ ∀ y ∈ l, okT τ y := by
  obtain ⟨fuel, hx⟩ := h
  have hm' : matchT P k e τ = some .nil := by
    unfold isNil at hm
    split at hm
    · assumption
    · cases hm
  obtain ⟨a', len', cap', rfl⟩ := hw
  rcases DataW.trod_slice hu hx with ⟨hcs, _⟩ | ⟨ad, len, cap, elems, rest, n', _, hcs, _, hb, hl, hmx, hlen, hel, _⟩
  · simp [Value.cells] at hcs
    obtain ⟨rfl, rfl, rfl⟩ := hcs
    exact ⟨[], ⟨none, 0, rfl, Nat.le_refl _, fun i y hy => by simp at hy⟩, Nat.zero_le _, fun y hy => by cases hy⟩
  · simp [Value.cells] at hcs
    obtain ⟨rfl, rfl, rfl⟩ := hcs
    obtain ⟨l, h1, h2, h3⟩ := openSl (w := w) (a := ad) (len := len') (τ := τ) hc h0 fun i hi => by
      have := hel i hi
      rw [List.getElem?_eq_getElem (by omega)] at this
      cases hcs : w.cells? 0 (ad.add (i * P.cellsOf e)) (P.cellsOf e) with
      | none => rw [hcs] at this; cases this
      | some cs =>
        rw [hcs] at this
        exact ⟨cs, rfl, (openT k e τ .nil hm' _ _ _ this).2⟩
    exact ⟨l, ⟨some ad, cap', by rw [h1], by rw [h1]; exact hl, h2⟩, by omega, h3⟩
theorem okWide_agg {r : Reach} {b : Nat} {t : TypeId} {v : Value} (hr : (P.underlying t).map TypeDesc.isRow = some true) (h : Value.okWide P w r b t v) : ∃ cs, v = .agg cs := by
  unfold Value.okWide at h
  cases hq : P.underlying t with
  | none => simp [hq] at hr
  | some d =>
    cases d <;> simp [hq, TypeDesc.isRow] at hr
    all_goals (rw [hq] at h; obtain ⟨cs, e, _⟩ := h; exact ⟨cs, e⟩)
theorem open_st {T : TypeId} {τ : Ty} {v : Value} {d : DataW H} {ps : List MemPlace} {k : Nat} (hm : isNil (matchT P k T τ) = true) (hw : ∃ cs, v = .agg cs) (h : DataW.Trod enc P w 0 sp held T v d ps) :
    ∃ x : El τ, sat ((shT τ).put x) (cx0 w) [v] ∧ okT τ x := by
  obtain ⟨fuel, hx⟩ := h
  have hm' : matchT P k T τ = some .nil := by
    unfold isNil at hm
    split at hm
    · assumption
    · cases hm
  obtain ⟨cs, rfl⟩ := hw
  obtain ⟨_, f, h1, h2⟩ := openT k T τ .nil hm' _ _ _ hx
  have h3 := h1 () [] rfl
  rw [List.append_nil] at h3
  exact ⟨f (), ⟨cs, rfl, encC_ok τ _ _ h3⟩, h2 () trivial⟩
end
end Go.Proofs.Ytdhpjpidcbplbaa.Eng

/- The table of this seat's types for the engine, with its proofs: printed by wip/tool/gen_ty.py. -/
namespace Go.Proofs.Ytdhpjpidcbplbaa
open Go Go.RowKit Go.Proofs.Ytdhpjpidcbplbaa.Eng
theorem ty2 : TIok Try.prog 2 {ze := some (.int .i64 0), eq := some [0], ik := some .i64, by_ := 8, ro := some (.int .i64 .nil)} := ti0 rfl (by kernel_rfl) (by kernel_rfl) (by kernel_rfl) ⟨.inr ⟨by kernel_rfl, by kernel_rfl⟩, .inr (by kernel_rfl)⟩ (by kernel_rfl) (.inr rfl) (.inr (by kernel_rfl))
theorem ty3 : TIok Try.prog 3 {ze := some (.int .i64 0), eq := some [0], ik := some .i64, by_ := 8, ro := some (.int .i64 .nil)} := ti0 rfl (by kernel_rfl) (by kernel_rfl) (by kernel_rfl) ⟨.inr ⟨by kernel_rfl, by kernel_rfl⟩, .inr (by kernel_rfl)⟩ (by kernel_rfl) (.inr rfl) (.inr (by kernel_rfl))
theorem ty4 : TIok Try.prog 4 {ze := some (.bool false), eq := some [1], by_ := 1, ro := some (.bool .nil)} := ti0 rfl (by kernel_rfl) (by kernel_rfl) (by kernel_rfl) ⟨.inr ⟨by kernel_rfl, by kernel_rfl⟩, .inl rfl⟩ (by kernel_rfl) (.inr rfl) (.inr (by kernel_rfl))
theorem ty5 : TIok Try.prog 5 {ze := some (.int .u8 0), eq := some [0], ik := some .u8, by_ := 1, ro := some (.int .u8 .nil)} := ti0 rfl (by kernel_rfl) (by kernel_rfl) (by kernel_rfl) ⟨.inr ⟨by kernel_rfl, by kernel_rfl⟩, .inr (by kernel_rfl)⟩ (by kernel_rfl) (.inr rfl) (.inr (by kernel_rfl))
theorem ty9 : TIok Try.prog 9 {kd := 5, ze := some (.string "".toUTF8), eq := some [2], by_ := 16, ro := some (.str .nil)} := ti5 rfl (by kernel_rfl) (by kernel_rfl) (by kernel_rfl) ⟨.inr ⟨by kernel_rfl, by kernel_rfl⟩, .inl rfl⟩ (by kernel_rfl) (.inr rfl) (.inr (by kernel_rfl)) (by kernel_rfl)
theorem ty12 : TIok Try.prog 12 {ze := some (.int .u64 0), eq := some [0], ik := some .u64, by_ := 8, ro := some (.int .u64 .nil)} := ti0 rfl (by kernel_rfl) (by kernel_rfl) (by kernel_rfl) ⟨.inr ⟨by kernel_rfl, by kernel_rfl⟩, .inr (by kernel_rfl)⟩ (by kernel_rfl) (.inr rfl) (.inr (by kernel_rfl))
theorem ty21 : TIok Try.prog 21 {ze := some (.int .i32 0), eq := some [0], ik := some .i32, by_ := 4, ro := some (.int .i32 .nil)} := ti0 rfl (by kernel_rfl) (by kernel_rfl) (by kernel_rfl) ⟨.inr ⟨by kernel_rfl, by kernel_rfl⟩, .inr (by kernel_rfl)⟩ (by kernel_rfl) (.inr rfl) (.inr (by kernel_rfl))
theorem ty22 : TIok Try.prog 22 {kd := 3, el := 37, ze := some (.slice none 0 0), by_ := 24, ro := some (.sl (.int .u8 (.int .i64 (.int .i64 (.int .i64 (.int .i64 (.int .i64 (.int .i64 (.int .i64 (.int .i64 (.sl (.int .i64 (.int .i64 .nil)) .nil)))))))))) .nil)} := ti3 rfl (by kernel_rfl) (by kernel_rfl) (by kernel_rfl) ⟨.inl rfl, .inl rfl⟩ (by kernel_rfl) (.inr rfl) (.inr (by kernel_rfl)) (by kernel_rfl)
theorem ty23 : TIok Try.prog 23 {kd := 1, sz := 3, ag := true, fl := [(0, 3), (1, 3), (2, 3)], pl := [(0, 1), (1, 1), (2, 1)], ze := some (.agg #[.int .i64 0, .int .i64 0, .int .i64 0]), eq := some [0, 0, 0], by_ := 24, ro := some (.int .i64 (.int .i64 (.int .i64 .nil)))} := ti1 rfl (by kernel_rfl) (by kernel_rfl) (by kernel_rfl) ⟨.inr ⟨by kernel_rfl, by kernel_rfl⟩, .inl rfl⟩ (by kernel_rfl) (.inr rfl) (.inr (by kernel_rfl)) Try.underlying23 rfl (by kernel_rfl)
theorem ty24 : TIok Try.prog 24 {kd := 1, sz := 3, ag := true, fl := [(0, 3), (1, 3), (2, 3)], pl := [(0, 1), (1, 1), (2, 1)], ze := some (.agg #[.int .i64 0, .int .i64 0, .int .i64 0]), eq := some [0, 0, 0], by_ := 24, ro := some (.int .i64 (.int .i64 (.int .i64 .nil)))} := ti1 rfl (by kernel_rfl) (by kernel_rfl) (by kernel_rfl) ⟨.inr ⟨by kernel_rfl, by kernel_rfl⟩, .inl rfl⟩ (by kernel_rfl) (.inr rfl) (.inr (by kernel_rfl)) Try.underlying24 rfl (by kernel_rfl)
theorem ty27 : TIok Try.prog 27 {kd := 6, ze := some (.pointer none), by_ := 8} := ti6 (e := 65) rfl (by kernel_rfl) (by kernel_rfl) (by kernel_rfl) ⟨.inl rfl, .inl rfl⟩ (by kernel_rfl) (.inl rfl) (.inr (by kernel_rfl)) (by kernel_rfl)
theorem ty29 : TIok Try.prog 29 {kd := 3, el := 35, ze := some (.slice none 0 0), by_ := 24, ro := some (.sl (.int .i64 (.int .i64 (.int .i64 (.int .i64 (.int .i64 (.sl (.int .i64 (.int .i64 .nil)) .nil)))))) .nil)} := ti3 rfl (by kernel_rfl) (by kernel_rfl) (by kernel_rfl) ⟨.inl rfl, .inl rfl⟩ (by kernel_rfl) (.inr rfl) (.inr (by kernel_rfl)) (by kernel_rfl)
theorem ty30 : TIok Try.prog 30 {kd := 2, sz := 3, ag := true, ar := 3, el := 3, ze := some (.agg #[.int .i64 0, .int .i64 0, .int .i64 0]), eq := some [0, 0, 0], by_ := 24, ro := some (.int .i64 (.int .i64 (.int .i64 .nil)))} := ti2 rfl (by kernel_rfl) (by kernel_rfl) (by kernel_rfl) ⟨.inr ⟨by kernel_rfl, by kernel_rfl⟩, .inl rfl⟩ (by kernel_rfl) (.inr rfl) (.inr (by kernel_rfl)) (by kernel_rfl)
theorem ty31 : TIok Try.prog 31 {kd := 1, sz := 5, ag := true, fl := [(0, 3), (1, 3), (2, 30)], pl := [(0, 1), (1, 1), (2, 3)], ze := some (.agg #[.int .i64 0, .int .i64 0, .int .i64 0, .int .i64 0, .int .i64 0]), eq := some [0, 0, 0, 0, 0], by_ := 40, ro := some (.int .i64 (.int .i64 (.int .i64 (.int .i64 (.int .i64 .nil)))))} := ti1 rfl (by kernel_rfl) (by kernel_rfl) (by kernel_rfl) ⟨.inr ⟨by kernel_rfl, by kernel_rfl⟩, .inl rfl⟩ (by kernel_rfl) (.inr rfl) (.inr (by kernel_rfl)) Try.underlying31 rfl (by kernel_rfl)
theorem ty32 : TIok Try.prog 32 {kd := 1, sz := 5, ag := true, fl := [(0, 3), (1, 3), (2, 30)], pl := [(0, 1), (1, 1), (2, 3)], ze := some (.agg #[.int .i64 0, .int .i64 0, .int .i64 0, .int .i64 0, .int .i64 0]), eq := some [0, 0, 0, 0, 0], by_ := 40, ro := some (.int .i64 (.int .i64 (.int .i64 (.int .i64 (.int .i64 .nil)))))} := ti1 rfl (by kernel_rfl) (by kernel_rfl) (by kernel_rfl) ⟨.inr ⟨by kernel_rfl, by kernel_rfl⟩, .inl rfl⟩ (by kernel_rfl) (.inr rfl) (.inr (by kernel_rfl)) Try.underlying32 rfl (by kernel_rfl)
theorem ty33 : TIok Try.prog 33 {kd := 3, el := 59, ze := some (.slice none 0 0), by_ := 24, ro := some (.sl (.int .i64 (.int .i64 .nil)) .nil)} := ti3 rfl (by kernel_rfl) (by kernel_rfl) (by kernel_rfl) ⟨.inl rfl, .inl rfl⟩ (by kernel_rfl) (.inr rfl) (.inr (by kernel_rfl)) (by kernel_rfl)
theorem ty34 : TIok Try.prog 34 {kd := 1, sz := 6, ag := true, fl := [(0, 32), (5, 33)], pl := [(0, 5), (5, 1)], ze := some (.agg #[.int .i64 0, .int .i64 0, .int .i64 0, .int .i64 0, .int .i64 0, .slice none 0 0]), by_ := 64, ro := some (.int .i64 (.int .i64 (.int .i64 (.int .i64 (.int .i64 (.sl (.int .i64 (.int .i64 .nil)) .nil))))))} := ti1 rfl (by kernel_rfl) (by kernel_rfl) (by kernel_rfl) ⟨.inl rfl, .inl rfl⟩ (by kernel_rfl) (.inr rfl) (.inr (by kernel_rfl)) Try.underlying34 rfl (by kernel_rfl)
theorem ty35 : TIok Try.prog 35 {kd := 1, sz := 6, ag := true, fl := [(0, 32), (5, 33)], pl := [(0, 5), (5, 1)], ze := some (.agg #[.int .i64 0, .int .i64 0, .int .i64 0, .int .i64 0, .int .i64 0, .slice none 0 0]), by_ := 64, ro := some (.int .i64 (.int .i64 (.int .i64 (.int .i64 (.int .i64 (.sl (.int .i64 (.int .i64 .nil)) .nil))))))} := ti1 rfl (by kernel_rfl) (by kernel_rfl) (by kernel_rfl) ⟨.inl rfl, .inl rfl⟩ (by kernel_rfl) (.inr rfl) (.inr (by kernel_rfl)) Try.underlying35 rfl (by kernel_rfl)
theorem ty36 : TIok Try.prog 36 {kd := 1, sz := 10, ag := true, fl := [(0, 5), (1, 24), (4, 35)], pl := [(0, 1), (1, 3), (4, 6)], ze := some (.agg #[.int .u8 0, .int .i64 0, .int .i64 0, .int .i64 0, .int .i64 0, .int .i64 0, .int .i64 0, .int .i64 0, .int .i64 0, .slice none 0 0]), by_ := 96, ro := some (.int .u8 (.int .i64 (.int .i64 (.int .i64 (.int .i64 (.int .i64 (.int .i64 (.int .i64 (.int .i64 (.sl (.int .i64 (.int .i64 .nil)) .nil))))))))))} := ti1 rfl (by kernel_rfl) (by kernel_rfl) (by kernel_rfl) ⟨.inl rfl, .inl rfl⟩ (by kernel_rfl) (.inr rfl) (.inr (by kernel_rfl)) Try.underlying36 rfl (by kernel_rfl)
theorem ty37 : TIok Try.prog 37 {kd := 1, sz := 10, ag := true, fl := [(0, 5), (1, 24), (4, 35)], pl := [(0, 1), (1, 3), (4, 6)], ze := some (.agg #[.int .u8 0, .int .i64 0, .int .i64 0, .int .i64 0, .int .i64 0, .int .i64 0, .int .i64 0, .int .i64 0, .int .i64 0, .slice none 0 0]), by_ := 96, ro := some (.int .u8 (.int .i64 (.int .i64 (.int .i64 (.int .i64 (.int .i64 (.int .i64 (.int .i64 (.int .i64 (.sl (.int .i64 (.int .i64 .nil)) .nil))))))))))} := ti1 rfl (by kernel_rfl) (by kernel_rfl) (by kernel_rfl) ⟨.inl rfl, .inl rfl⟩ (by kernel_rfl) (.inr rfl) (.inr (by kernel_rfl)) Try.underlying37 rfl (by kernel_rfl)
theorem ty40 : TIok Try.prog 40 {ze := some (.int .i64 0), eq := some [0], ik := some .i64, by_ := 8, ro := some (.int .i64 .nil)} := ti0 rfl (by kernel_rfl) (by kernel_rfl) (by kernel_rfl) ⟨.inr ⟨by kernel_rfl, by kernel_rfl⟩, .inr (by kernel_rfl)⟩ (by kernel_rfl) (.inr rfl) (.inr (by kernel_rfl))
theorem ty45 : TIok Try.prog 45 {kd := 3, el := 24, ze := some (.slice none 0 0), by_ := 24, ro := some (.sl (.int .i64 (.int .i64 (.int .i64 .nil))) .nil)} := ti3 rfl (by kernel_rfl) (by kernel_rfl) (by kernel_rfl) ⟨.inl rfl, .inl rfl⟩ (by kernel_rfl) (.inr rfl) (.inr (by kernel_rfl)) (by kernel_rfl)
theorem ty51 : TIok Try.prog 51 {kd := 6, ze := some (.pointer none), by_ := 8} := ti6 (e := 54) rfl (by kernel_rfl) (by kernel_rfl) (by kernel_rfl) ⟨.inl rfl, .inl rfl⟩ (by kernel_rfl) (.inl rfl) (.inr (by kernel_rfl)) (by kernel_rfl)
theorem ty52 : TIok Try.prog 52 {kd := 3, el := 79, ze := some (.slice none 0 0), by_ := 24, ro := some (.sl (.int .i64 (.int .i64 (.int .i64 (.int .i64 (.int .i64 (.int .i64 (.int .i64 (.int .i64 (.sl (.int .i64 (.int .i64 .nil)) .nil))))))))) .nil)} := ti3 rfl (by kernel_rfl) (by kernel_rfl) (by kernel_rfl) ⟨.inl rfl, .inl rfl⟩ (by kernel_rfl) (.inr rfl) (.inr (by kernel_rfl)) (by kernel_rfl)
theorem ty53 : TIok Try.prog 53 {kd := 1, ag := true, fl := [(0, 52)], pl := [(0, 1)], ze := some (.agg #[.slice none 0 0]), by_ := 24, ro := some (.sl (.int .i64 (.int .i64 (.int .i64 (.int .i64 (.int .i64 (.int .i64 (.int .i64 (.int .i64 (.sl (.int .i64 (.int .i64 .nil)) .nil))))))))) .nil)} := ti1 rfl (by kernel_rfl) (by kernel_rfl) (by kernel_rfl) ⟨.inl rfl, .inl rfl⟩ (by kernel_rfl) (.inr rfl) (.inr (by kernel_rfl)) Try.underlying53 rfl (by kernel_rfl)
theorem ty54 : TIok Try.prog 54 {kd := 1, ag := true, fl := [(0, 52)], pl := [(0, 1)], ze := some (.agg #[.slice none 0 0]), by_ := 24, ro := some (.sl (.int .i64 (.int .i64 (.int .i64 (.int .i64 (.int .i64 (.int .i64 (.int .i64 (.int .i64 (.sl (.int .i64 (.int .i64 .nil)) .nil))))))))) .nil)} := ti1 rfl (by kernel_rfl) (by kernel_rfl) (by kernel_rfl) ⟨.inl rfl, .inl rfl⟩ (by kernel_rfl) (.inr rfl) (.inr (by kernel_rfl)) Try.underlying54 rfl (by kernel_rfl)
theorem ty56 : TIok Try.prog 56 {kd := 1, sz := 3, ag := true, fl := [(0, 3), (1, 3), (2, 3)], pl := [(0, 1), (1, 1), (2, 1)], ze := some (.agg #[.int .i64 0, .int .i64 0, .int .i64 0]), eq := some [0, 0, 0], by_ := 24, ro := some (.int .i64 (.int .i64 (.int .i64 .nil)))} := ti1 rfl (by kernel_rfl) (by kernel_rfl) (by kernel_rfl) ⟨.inr ⟨by kernel_rfl, by kernel_rfl⟩, .inl rfl⟩ (by kernel_rfl) (.inr rfl) (.inr (by kernel_rfl)) Try.underlying56 rfl (by kernel_rfl)
theorem ty58 : TIok Try.prog 58 {kd := 1, sz := 2, ag := true, fl := [(0, 2), (1, 2)], pl := [(0, 1), (1, 1)], ze := some (.agg #[.int .i64 0, .int .i64 0]), eq := some [0, 0], by_ := 16, ro := some (.int .i64 (.int .i64 .nil))} := ti1 rfl (by kernel_rfl) (by kernel_rfl) (by kernel_rfl) ⟨.inr ⟨by kernel_rfl, by kernel_rfl⟩, .inl rfl⟩ (by kernel_rfl) (.inr rfl) (.inr (by kernel_rfl)) Try.underlying58 rfl (by kernel_rfl)
theorem ty59 : TIok Try.prog 59 {kd := 1, sz := 2, ag := true, fl := [(0, 2), (1, 2)], pl := [(0, 1), (1, 1)], ze := some (.agg #[.int .i64 0, .int .i64 0]), eq := some [0, 0], by_ := 16, ro := some (.int .i64 (.int .i64 .nil))} := ti1 rfl (by kernel_rfl) (by kernel_rfl) (by kernel_rfl) ⟨.inr ⟨by kernel_rfl, by kernel_rfl⟩, .inl rfl⟩ (by kernel_rfl) (.inr rfl) (.inr (by kernel_rfl)) Try.underlying59 rfl (by kernel_rfl)
theorem ty62 : TIok Try.prog 62 {kd := 3, el := 3, ze := some (.slice none 0 0), by_ := 24, ro := some (.sl (.int .i64 .nil) .nil)} := ti3 rfl (by kernel_rfl) (by kernel_rfl) (by kernel_rfl) ⟨.inl rfl, .inl rfl⟩ (by kernel_rfl) (.inr rfl) (.inr (by kernel_rfl)) (by kernel_rfl)
theorem ty63 : TIok Try.prog 63 {kd := 4, el := 29, ky := 24, mv := some (true, false, .int .i64 (.int .i64 (.int .i64 .nil)), .el (.sl (.int .i64 (.int .i64 (.int .i64 (.int .i64 (.int .i64 (.sl (.int .i64 (.int .i64 .nil)) .nil)))))) .nil)), ze := some (.map none), by_ := 8} := ti4 rfl (by kernel_rfl) (by kernel_rfl) (by kernel_rfl) ⟨.inl rfl, .inl rfl⟩ (by kernel_rfl) (.inl rfl) (.inr (by kernel_rfl)) (by kernel_rfl) (.inl rfl)
theorem ty64 : TIok Try.prog 64 {kd := 1, ag := true, fl := [(0, 63)], pl := [(0, 1)], ze := some (.agg #[.map none]), by_ := 8} := ti1 rfl (by kernel_rfl) (by kernel_rfl) (by kernel_rfl) ⟨.inl rfl, .inl rfl⟩ (by kernel_rfl) (.inl rfl) (.inr (by kernel_rfl)) Try.underlying64 rfl (by kernel_rfl)
theorem ty65 : TIok Try.prog 65 {kd := 1, ag := true, fl := [(0, 63)], pl := [(0, 1)], ze := some (.agg #[.map none]), by_ := 8} := ti1 rfl (by kernel_rfl) (by kernel_rfl) (by kernel_rfl) ⟨.inl rfl, .inl rfl⟩ (by kernel_rfl) (.inl rfl) (.inr (by kernel_rfl)) Try.underlying65 rfl (by kernel_rfl)
theorem ty71 : TIok Try.prog 71 {ze := some (.nilFunc), by_ := 8} := ti0 rfl (by kernel_rfl) (by kernel_rfl) (by kernel_rfl) ⟨.inl rfl, .inl rfl⟩ (by kernel_rfl) (.inl rfl) (.inr (by kernel_rfl))
theorem ty78 : TIok Try.prog 78 {kd := 1, sz := 9, ag := true, fl := [(0, 56), (3, 35)], pl := [(0, 3), (3, 6)], ze := some (.agg #[.int .i64 0, .int .i64 0, .int .i64 0, .int .i64 0, .int .i64 0, .int .i64 0, .int .i64 0, .int .i64 0, .slice none 0 0]), by_ := 88, ro := some (.int .i64 (.int .i64 (.int .i64 (.int .i64 (.int .i64 (.int .i64 (.int .i64 (.int .i64 (.sl (.int .i64 (.int .i64 .nil)) .nil)))))))))} := ti1 rfl (by kernel_rfl) (by kernel_rfl) (by kernel_rfl) ⟨.inl rfl, .inl rfl⟩ (by kernel_rfl) (.inr rfl) (.inr (by kernel_rfl)) Try.underlying78 rfl (by kernel_rfl)
theorem ty79 : TIok Try.prog 79 {kd := 1, sz := 9, ag := true, fl := [(0, 56), (3, 35)], pl := [(0, 3), (3, 6)], ze := some (.agg #[.int .i64 0, .int .i64 0, .int .i64 0, .int .i64 0, .int .i64 0, .int .i64 0, .int .i64 0, .int .i64 0, .slice none 0 0]), by_ := 88, ro := some (.int .i64 (.int .i64 (.int .i64 (.int .i64 (.int .i64 (.int .i64 (.int .i64 (.int .i64 (.sl (.int .i64 (.int .i64 .nil)) .nil)))))))))} := ti1 rfl (by kernel_rfl) (by kernel_rfl) (by kernel_rfl) ⟨.inl rfl, .inl rfl⟩ (by kernel_rfl) (.inr rfl) (.inr (by kernel_rfl)) Try.underlying79 rfl (by kernel_rfl)
theorem ty81 : TIok Try.prog 81 {kd := 3, el := 56, ze := some (.slice none 0 0), by_ := 24, ro := some (.sl (.int .i64 (.int .i64 (.int .i64 .nil))) .nil)} := ti3 rfl (by kernel_rfl) (by kernel_rfl) (by kernel_rfl) ⟨.inl rfl, .inl rfl⟩ (by kernel_rfl) (.inr rfl) (.inr (by kernel_rfl)) (by kernel_rfl)
theorem ty93 : TIok Try.prog 93 {ze := some (.int .u64 0), eq := some [0], ik := some .u64, by_ := 8, ro := some (.int .u64 .nil)} := ti0 rfl (by kernel_rfl) (by kernel_rfl) (by kernel_rfl) ⟨.inr ⟨by kernel_rfl, by kernel_rfl⟩, .inr (by kernel_rfl)⟩ (by kernel_rfl) (.inr rfl) (.inr (by kernel_rfl))
theorem ty103 : TIok Try.prog 103 {ze := some (.int .u32 0), eq := some [0], ik := some .u32, by_ := 4, ro := some (.int .u32 .nil)} := ti0 rfl (by kernel_rfl) (by kernel_rfl) (by kernel_rfl) ⟨.inr ⟨by kernel_rfl, by kernel_rfl⟩, .inr (by kernel_rfl)⟩ (by kernel_rfl) (.inr rfl) (.inr (by kernel_rfl))
theorem ty105 : TIok Try.prog 105 {ze := some (.int .u64 0), eq := some [0], ik := some .u64, by_ := 8, ro := some (.int .u64 .nil)} := ti0 rfl (by kernel_rfl) (by kernel_rfl) (by kernel_rfl) ⟨.inr ⟨by kernel_rfl, by kernel_rfl⟩, .inr (by kernel_rfl)⟩ (by kernel_rfl) (.inr rfl) (.inr (by kernel_rfl))
theorem ty110 : TIok Try.prog 110 {kd := 6, ze := some (.pointer none), by_ := 8} := ti6 (e := 3) rfl (by kernel_rfl) (by kernel_rfl) (by kernel_rfl) ⟨.inl rfl, .inl rfl⟩ (by kernel_rfl) (.inl rfl) (.inr (by kernel_rfl)) (by kernel_rfl)
theorem ty124 : TIok Try.prog 124 {kd := 6, ze := some (.pointer none), by_ := 8} := ti6 (e := 5) rfl (by kernel_rfl) (by kernel_rfl) (by kernel_rfl) ⟨.inl rfl, .inl rfl⟩ (by kernel_rfl) (.inl rfl) (.inr (by kernel_rfl)) (by kernel_rfl)
def tys : List (TypeId × TI) := [
  (2, {ze := some (.int .i64 0), eq := some [0], ik := some .i64, by_ := 8, ro := some (.int .i64 .nil)}),
  (3, {ze := some (.int .i64 0), eq := some [0], ik := some .i64, by_ := 8, ro := some (.int .i64 .nil)}),
  (4, {ze := some (.bool false), eq := some [1], by_ := 1, ro := some (.bool .nil)}),
  (5, {ze := some (.int .u8 0), eq := some [0], ik := some .u8, by_ := 1, ro := some (.int .u8 .nil)}),
  (9, {kd := 5, ze := some (.string "".toUTF8), eq := some [2], by_ := 16, ro := some (.str .nil)}),
  (12, {ze := some (.int .u64 0), eq := some [0], ik := some .u64, by_ := 8, ro := some (.int .u64 .nil)}),
  (21, {ze := some (.int .i32 0), eq := some [0], ik := some .i32, by_ := 4, ro := some (.int .i32 .nil)}),
  (22, {kd := 3, el := 37, ze := some (.slice none 0 0), by_ := 24, ro := some (.sl (.int .u8 (.int .i64 (.int .i64 (.int .i64 (.int .i64 (.int .i64 (.int .i64 (.int .i64 (.int .i64 (.sl (.int .i64 (.int .i64 .nil)) .nil)))))))))) .nil)}),
  (23, {kd := 1, sz := 3, ag := true, fl := [(0, 3), (1, 3), (2, 3)], pl := [(0, 1), (1, 1), (2, 1)], ze := some (.agg #[.int .i64 0, .int .i64 0, .int .i64 0]), eq := some [0, 0, 0], by_ := 24, ro := some (.int .i64 (.int .i64 (.int .i64 .nil)))}),
  (24, {kd := 1, sz := 3, ag := true, fl := [(0, 3), (1, 3), (2, 3)], pl := [(0, 1), (1, 1), (2, 1)], ze := some (.agg #[.int .i64 0, .int .i64 0, .int .i64 0]), eq := some [0, 0, 0], by_ := 24, ro := some (.int .i64 (.int .i64 (.int .i64 .nil)))}),
  (27, {kd := 6, ze := some (.pointer none), by_ := 8}),
  (29, {kd := 3, el := 35, ze := some (.slice none 0 0), by_ := 24, ro := some (.sl (.int .i64 (.int .i64 (.int .i64 (.int .i64 (.int .i64 (.sl (.int .i64 (.int .i64 .nil)) .nil)))))) .nil)}),
  (30, {kd := 2, sz := 3, ag := true, ar := 3, el := 3, ze := some (.agg #[.int .i64 0, .int .i64 0, .int .i64 0]), eq := some [0, 0, 0], by_ := 24, ro := some (.int .i64 (.int .i64 (.int .i64 .nil)))}),
  (31, {kd := 1, sz := 5, ag := true, fl := [(0, 3), (1, 3), (2, 30)], pl := [(0, 1), (1, 1), (2, 3)], ze := some (.agg #[.int .i64 0, .int .i64 0, .int .i64 0, .int .i64 0, .int .i64 0]), eq := some [0, 0, 0, 0, 0], by_ := 40, ro := some (.int .i64 (.int .i64 (.int .i64 (.int .i64 (.int .i64 .nil)))))}),
  (32, {kd := 1, sz := 5, ag := true, fl := [(0, 3), (1, 3), (2, 30)], pl := [(0, 1), (1, 1), (2, 3)], ze := some (.agg #[.int .i64 0, .int .i64 0, .int .i64 0, .int .i64 0, .int .i64 0]), eq := some [0, 0, 0, 0, 0], by_ := 40, ro := some (.int .i64 (.int .i64 (.int .i64 (.int .i64 (.int .i64 .nil)))))}),
  (33, {kd := 3, el := 59, ze := some (.slice none 0 0), by_ := 24, ro := some (.sl (.int .i64 (.int .i64 .nil)) .nil)}),
  (34, {kd := 1, sz := 6, ag := true, fl := [(0, 32), (5, 33)], pl := [(0, 5), (5, 1)], ze := some (.agg #[.int .i64 0, .int .i64 0, .int .i64 0, .int .i64 0, .int .i64 0, .slice none 0 0]), by_ := 64, ro := some (.int .i64 (.int .i64 (.int .i64 (.int .i64 (.int .i64 (.sl (.int .i64 (.int .i64 .nil)) .nil))))))}),
  (35, {kd := 1, sz := 6, ag := true, fl := [(0, 32), (5, 33)], pl := [(0, 5), (5, 1)], ze := some (.agg #[.int .i64 0, .int .i64 0, .int .i64 0, .int .i64 0, .int .i64 0, .slice none 0 0]), by_ := 64, ro := some (.int .i64 (.int .i64 (.int .i64 (.int .i64 (.int .i64 (.sl (.int .i64 (.int .i64 .nil)) .nil))))))}),
  (36, {kd := 1, sz := 10, ag := true, fl := [(0, 5), (1, 24), (4, 35)], pl := [(0, 1), (1, 3), (4, 6)], ze := some (.agg #[.int .u8 0, .int .i64 0, .int .i64 0, .int .i64 0, .int .i64 0, .int .i64 0, .int .i64 0, .int .i64 0, .int .i64 0, .slice none 0 0]), by_ := 96, ro := some (.int .u8 (.int .i64 (.int .i64 (.int .i64 (.int .i64 (.int .i64 (.int .i64 (.int .i64 (.int .i64 (.sl (.int .i64 (.int .i64 .nil)) .nil))))))))))}),
  (37, {kd := 1, sz := 10, ag := true, fl := [(0, 5), (1, 24), (4, 35)], pl := [(0, 1), (1, 3), (4, 6)], ze := some (.agg #[.int .u8 0, .int .i64 0, .int .i64 0, .int .i64 0, .int .i64 0, .int .i64 0, .int .i64 0, .int .i64 0, .int .i64 0, .slice none 0 0]), by_ := 96, ro := some (.int .u8 (.int .i64 (.int .i64 (.int .i64 (.int .i64 (.int .i64 (.int .i64 (.int .i64 (.int .i64 (.sl (.int .i64 (.int .i64 .nil)) .nil))))))))))}),
  (40, {ze := some (.int .i64 0), eq := some [0], ik := some .i64, by_ := 8, ro := some (.int .i64 .nil)}),
  (45, {kd := 3, el := 24, ze := some (.slice none 0 0), by_ := 24, ro := some (.sl (.int .i64 (.int .i64 (.int .i64 .nil))) .nil)}),
  (51, {kd := 6, ze := some (.pointer none), by_ := 8}),
  (52, {kd := 3, el := 79, ze := some (.slice none 0 0), by_ := 24, ro := some (.sl (.int .i64 (.int .i64 (.int .i64 (.int .i64 (.int .i64 (.int .i64 (.int .i64 (.int .i64 (.sl (.int .i64 (.int .i64 .nil)) .nil))))))))) .nil)}),
  (53, {kd := 1, ag := true, fl := [(0, 52)], pl := [(0, 1)], ze := some (.agg #[.slice none 0 0]), by_ := 24, ro := some (.sl (.int .i64 (.int .i64 (.int .i64 (.int .i64 (.int .i64 (.int .i64 (.int .i64 (.int .i64 (.sl (.int .i64 (.int .i64 .nil)) .nil))))))))) .nil)}),
  (54, {kd := 1, ag := true, fl := [(0, 52)], pl := [(0, 1)], ze := some (.agg #[.slice none 0 0]), by_ := 24, ro := some (.sl (.int .i64 (.int .i64 (.int .i64 (.int .i64 (.int .i64 (.int .i64 (.int .i64 (.int .i64 (.sl (.int .i64 (.int .i64 .nil)) .nil))))))))) .nil)}),
  (56, {kd := 1, sz := 3, ag := true, fl := [(0, 3), (1, 3), (2, 3)], pl := [(0, 1), (1, 1), (2, 1)], ze := some (.agg #[.int .i64 0, .int .i64 0, .int .i64 0]), eq := some [0, 0, 0], by_ := 24, ro := some (.int .i64 (.int .i64 (.int .i64 .nil)))}),
  (58, {kd := 1, sz := 2, ag := true, fl := [(0, 2), (1, 2)], pl := [(0, 1), (1, 1)], ze := some (.agg #[.int .i64 0, .int .i64 0]), eq := some [0, 0], by_ := 16, ro := some (.int .i64 (.int .i64 .nil))}),
  (59, {kd := 1, sz := 2, ag := true, fl := [(0, 2), (1, 2)], pl := [(0, 1), (1, 1)], ze := some (.agg #[.int .i64 0, .int .i64 0]), eq := some [0, 0], by_ := 16, ro := some (.int .i64 (.int .i64 .nil))}),
  (62, {kd := 3, el := 3, ze := some (.slice none 0 0), by_ := 24, ro := some (.sl (.int .i64 .nil) .nil)}),
  (63, {kd := 4, el := 29, ky := 24, mv := some (true, false, .int .i64 (.int .i64 (.int .i64 .nil)), .el (.sl (.int .i64 (.int .i64 (.int .i64 (.int .i64 (.int .i64 (.sl (.int .i64 (.int .i64 .nil)) .nil)))))) .nil)), ze := some (.map none), by_ := 8}),
  (64, {kd := 1, ag := true, fl := [(0, 63)], pl := [(0, 1)], ze := some (.agg #[.map none]), by_ := 8}),
  (65, {kd := 1, ag := true, fl := [(0, 63)], pl := [(0, 1)], ze := some (.agg #[.map none]), by_ := 8}),
  (71, {ze := some (.nilFunc), by_ := 8}),
  (78, {kd := 1, sz := 9, ag := true, fl := [(0, 56), (3, 35)], pl := [(0, 3), (3, 6)], ze := some (.agg #[.int .i64 0, .int .i64 0, .int .i64 0, .int .i64 0, .int .i64 0, .int .i64 0, .int .i64 0, .int .i64 0, .slice none 0 0]), by_ := 88, ro := some (.int .i64 (.int .i64 (.int .i64 (.int .i64 (.int .i64 (.int .i64 (.int .i64 (.int .i64 (.sl (.int .i64 (.int .i64 .nil)) .nil)))))))))}),
  (79, {kd := 1, sz := 9, ag := true, fl := [(0, 56), (3, 35)], pl := [(0, 3), (3, 6)], ze := some (.agg #[.int .i64 0, .int .i64 0, .int .i64 0, .int .i64 0, .int .i64 0, .int .i64 0, .int .i64 0, .int .i64 0, .slice none 0 0]), by_ := 88, ro := some (.int .i64 (.int .i64 (.int .i64 (.int .i64 (.int .i64 (.int .i64 (.int .i64 (.int .i64 (.sl (.int .i64 (.int .i64 .nil)) .nil)))))))))}),
  (81, {kd := 3, el := 56, ze := some (.slice none 0 0), by_ := 24, ro := some (.sl (.int .i64 (.int .i64 (.int .i64 .nil))) .nil)}),
  (93, {ze := some (.int .u64 0), eq := some [0], ik := some .u64, by_ := 8, ro := some (.int .u64 .nil)}),
  (103, {ze := some (.int .u32 0), eq := some [0], ik := some .u32, by_ := 4, ro := some (.int .u32 .nil)}),
  (105, {ze := some (.int .u64 0), eq := some [0], ik := some .u64, by_ := 8, ro := some (.int .u64 .nil)}),
  (110, {kd := 6, ze := some (.pointer none), by_ := 8}),
  (124, {kd := 6, ze := some (.pointer none), by_ := 8})]
theorem tys_ok : AllTy Try.prog tys := ⟨ty2, ty3, ty4, ty5, ty9, ty12, ty21, ty22, ty23, ty24, ty27, ty29, ty30, ty31, ty32, ty33, ty34, ty35, ty36, ty37, ty40, ty45, ty51, ty52, ty53, ty54, ty56, ty58, ty59, ty62, ty63, ty64, ty65, ty71, ty78, ty79, ty81, ty93, ty103, ty105, ty110, ty124, trivial⟩
theorem mixed : Try.prog.follows .mixedOrders = true := by kernel_rfl
end Go.Proofs.Ytdhpjpidcbplbaa

/- Times and summaries in plain Lean: what layers 5 and 8 answer. No program in sight. -/
namespace Go.Proofs.Ytdhpjpidcbplbaa
structure St where
  d : Int
  e : Int
  a : Int
  b : Int
  c : Int
structure Sm where
  f : Int
  t : Int
  k : Int
  n : Int
  a : Int
  b : Int
  c : Int
def tOK (d e a b c : Int) : Prop :=
  0 ≤ d ∧ d ≤ 3 ∧ 0 ≤ e ∧ e < 1000 ∧ 0 ≤ a ∧ a < 16 ∧ 0 ≤ b ∧ b < 16 ∧ 0 ≤ c ∧ c < 16 ∧ (d ≤ 0 → a = 0) ∧ (d ≤ 1 → b = 0) ∧ (d ≤ 2 → c = 0)
instance (d e a b c : Int) : Decidable (tOK d e a b c) := by unfold tOK; infer_instance
def rT (d e a b c : Int) : Bool := decide (tOK d e a b c)
def sOK (f t k n a b c : Int) : Prop :=
  0 ≤ f ∧ f ≤ 3 ∧ 0 ≤ t ∧ t ≤ 3 ∧ 0 ≤ k ∧ k ≤ f ∧ k ≤ t ∧ 0 ≤ n ∧ n < 16 ∧ (k = 0 → n = 0) ∧
  0 ≤ a ∧ a < 16 ∧ 0 ≤ b ∧ b < 16 ∧ 0 ≤ c ∧ c < 16 ∧ (t - k ≤ 0 → a = 0) ∧ (t - k ≤ 1 → b = 0) ∧ (t - k ≤ 2 → c = 0)
instance (f t k n a b c : Int) : Decidable (sOK f t k n a b c) := by unfold sOK; infer_instance
def rS (f t k n a b c : Int) : Bool := decide (sOK f t k n a b c)
theorem rT_true {d e a b c : Int} (h : tOK d e a b c) : rT d e a b c = true := decide_eq_true h
theorem rT_false {d e a b c : Int} (h : ¬ tOK d e a b c) : rT d e a b c = false := decide_eq_false h
theorem rT_ok {d e a b c : Int} (h : rT d e a b c = true) : tOK d e a b c := of_decide_eq_true h
theorem rT_not {d e a b c : Int} (h : rT d e a b c = false) : ¬ tOK d e a b c := of_decide_eq_false h
theorem rS_true {f t k n a b c : Int} (h : sOK f t k n a b c) : rS f t k n a b c = true := decide_eq_true h
theorem rS_false {f t k n a b c : Int} (h : ¬ sOK f t k n a b c) : rS f t k n a b c = false := decide_eq_false h
theorem rS_ok {f t k n a b c : Int} (h : rS f t k n a b c = true) : sOK f t k n a b c := of_decide_eq_true h
theorem rS_not {f t k n a b c : Int} (h : rS f t k n a b c = false) : ¬ sOK f t k n a b c := of_decide_eq_false h
def St.ok (s : St) : Bool := rT s.d s.e s.a s.b s.c
def Sm.ok (s : Sm) : Bool := rS s.f s.t s.k s.n s.a s.b s.c
def ctr (n : Int) : Bool := decide (0 ≤ n ∧ n < 16)
def dpt (n : Int) : Bool := decide (0 ≤ n ∧ n ≤ 3)
theorem ctr_true {n : Int} (h : 0 ≤ n ∧ n < 16) : ctr n = true := decide_eq_true h
theorem ctr_false {n : Int} (h : ¬ (0 ≤ n ∧ n < 16)) : ctr n = false := decide_eq_false h
theorem ctr_ok {n : Int} (h : ctr n = true) : 0 ≤ n ∧ n < 16 := of_decide_eq_true h
theorem ctr_not {n : Int} (h : ctr n = false) : ¬ (0 ≤ n ∧ n < 16) := of_decide_eq_false h
theorem dpt_true {n : Int} (h : 0 ≤ n ∧ n ≤ 3) : dpt n = true := decide_eq_true h
theorem dpt_false {n : Int} (h : ¬ (0 ≤ n ∧ n ≤ 3)) : dpt n = false := decide_eq_false h
theorem dpt_ok {n : Int} (h : dpt n = true) : 0 ≤ n ∧ n ≤ 3 := of_decide_eq_true h
theorem dpt_not {n : Int} (h : dpt n = false) : ¬ (0 ≤ n ∧ n ≤ 3) := of_decide_eq_false h
def St.zero : St := ⟨0, 0, 0, 0, 0⟩
def Sm.zero : Sm := ⟨0, 0, 0, 0, 0, 0, 0⟩
def St.at (s : St) (i : Int) : Int := if i = 0 then s.a else if i = 1 then s.b else s.c
def Sm.at (s : Sm) (i : Int) : Int := if i = 0 then s.a else if i = 1 then s.b else s.c
def ofS (kind depth : Int) : Sm × Bool :=
  let s : Sm := if kind = 7 then ⟨depth - 1, depth, depth - 1, 0, 0, 0, 0⟩ else if kind = 8 then ⟨depth + 1, depth, depth, 0, 0, 0, 0⟩
    else if kind = 9 then ⟨depth, depth, depth, 1, 0, 0, 0⟩ else ⟨depth, depth, depth, 0, 0, 0, 0⟩
  if 1 ≤ kind ∧ kind ≤ 10 ∧ s.ok = true then (s, true) else (Sm.zero, false)
def apN (s : Sm) (t : St) (i : Int) : Int :=
  if i < s.k then t.at i + (if i = s.k - 1 then s.n else 0) else if i < s.t then s.at (i - s.k) else 0
def apS (s : Sm) (t : St) : St × Bool :=
  let u : St := ⟨s.t, t.e, apN s t 0, apN s t 1, apN s t 2⟩
  if s.ok = true ∧ t.ok = true ∧ t.d = s.f ∧ u.ok = true then (u, true) else (St.zero, false)
def rwN (s : Sm) (i : Int) : Int := if i < s.k - 1 then 0 else if i = s.k - 1 then s.n else s.at (i - s.k)
def atS (s : Sm) (i : Int) : Bool × Int := if i ≥ s.k then (false, s.at (i - s.k)) else if i = s.k - 1 then (true, s.n) else (true, 0)
def thT (a b : Sm) (i : Int) : Int := if i < b.k - a.k then a.at i + (if i = b.k - a.k - 1 then b.n else 0) else b.at (i - (b.k - a.k))
def thC (a b : Sm) : Sm :=
  if b.k < a.k then ⟨a.f, b.t, b.k, b.n, b.a, b.b, b.c⟩
  else if b.k = a.k then ⟨a.f, b.t, a.k, a.n + b.n, b.a, b.b, b.c⟩
  else ⟨a.f, b.t, a.k, a.n, thT a b 0, thT a b 1, thT a b 2⟩
def thS (a b : Sm) : Sm × Bool :=
  if a.ok = true ∧ b.ok = true ∧ a.t = b.f ∧ (thC a b).ok = true then (thC a b, true) else (Sm.zero, false)
def leS (a b : Sm) : Bool :=
  decide (a.ok = true ∧ b.ok = true ∧ a.f = b.f ∧ a.t = b.t ∧ a.k ≤ b.k ∧ rwN a 0 ≤ rwN b 0 ∧ rwN a 1 ≤ rwN b 1 ∧ rwN a 2 ≤ rwN b 2)
def alS (a b : St) : Bool := decide (a.d = b.d ∧ a.ok = true ∧ b.ok = true)
def mx (x y : Int) : Int := if y > x then y else x
def joS (a b : St) : St × Bool := if alS a b = true then (⟨a.d, mx a.e b.e, mx a.a b.a, mx a.b b.b, mx a.c b.c⟩, true) else (St.zero, false)
def leT (a b : St) : Bool := decide (alS a b = true ∧ a.e ≤ b.e ∧ a.a ≤ b.a ∧ a.b ≤ b.b ∧ a.c ≤ b.c)
end Go.Proofs.Ytdhpjpidcbplbaa

/- Times and summaries as shapes. -/
namespace Go.Proofs.Ytdhpjpidcbplbaa
open Go Go.Proofs.Ytdhpjpidcbplbaa.Eng
def gSt : AV → Option St
  | .agg l => match gL 5 l with
    | some [d, e, a, b, c] => some ⟨d, e, a, b, c⟩
    | _ => none
  | _ => none
abbrev pSt (s : St) : AV := .agg (.cons (I s.d) (.cons (I s.e) (.cons (I s.a) (.cons (I s.b) (.cons (I s.c) .nil)))))
theorem gSt_ok {v : AV} {x : St} (h : gSt v = some x) : v = pSt x := by
  unfold gSt at h
  split at h
  · split at h
    · rename_i hl
      injection h with h; subst h
      rw [(gL_ok 5 hl).1]; rfl
    · cases h
  · cases h
def shSt : Sh St := .mk' gSt pSt (fun _ _ h => gSt_ok h)
def gSm : AV → Option Sm
  | .agg l => match gL 7 l with
    | some [f, t, k, n, a, b, c] => some ⟨f, t, k, n, a, b, c⟩
    | _ => none
  | _ => none
abbrev pSm (s : Sm) : AV := .agg (.cons (I s.f) (.cons (I s.t) (.cons (I s.k) (.cons (I s.n) (.cons (I s.a) (.cons (I s.b) (.cons (I s.c) .nil)))))))
theorem gSm_ok {v : AV} {x : Sm} (h : gSm v = some x) : v = pSm x := by
  unfold gSm at h
  split at h
  · split at h
    · rename_i hl
      injection h with h; subst h
      rw [(gL_ok 7 hl).1]; rfl
    · cases h
  · cases h
def shSm : Sh Sm := .mk' gSm pSm (fun _ _ h => gSm_ok h)
abbrev pP (a b : AV) : AV := .tup (.cons a (.cons b .nil))
end Go.Proofs.Ytdhpjpidcbplbaa

/- Graphs in plain Lean: what layer 9 answers. No program in sight. -/
namespace Go.Proofs.Ytdhpjpidcbplbaa
open Go Go.Proofs.Ytdhpjpidcbplbaa.Eng
abbrev tI : Ty := .int .i64 .nil
abbrev tU : Ty := .int .u8 .nil
abbrev tN : Ty := .int .u8 (.int .u8 (.int .i64 (.int .i64 (.sl tI .nil))))
abbrev tP : Ty := .int .i64 (.int .i64 .nil)
abbrev Nd := El tN
def Nd.kind (n : Nd) : Int := n.1
def Nd.a (n : Nd) : Int := n.2.1
def Nd.b (n : Nd) : Int := n.2.2.1
def Nd.dep (n : Nd) : Int := n.2.2.2.1
def Nd.ins (n : Nd) : List (El tI) := n.2.2.2.2.1
def toIn (n i : Int) : Int → List (El tI) → List (El tP)
  | _, [] => []
  | k, x :: r => if x.1 = i then (n, k, ()) :: toIn n i (k + 1) r else toIn n i (k + 1) r
def toOut (i : Int) : Int → List Nd → List (El tP)
  | _, [] => []
  | n, x :: r => toIn n i 0 x.ins ++ toOut i (n + 1) r
def toG (g : List Nd) (i : Int) : List (El tP) := toOut i 0 g
def insG (g : List Nd) (top : Int) : Bool := decide ((g.length : Int) ≤ top) && g.all fun n => decide ((n.ins.length : Int) ≤ top)
def ndC (q : Bool) (n : Nd) : AV := .cons (.v (.int .u8 n.1)) (.cons (.v (.int .u8 n.2.1)) (.cons (.v (.int .i64 n.2.2.1)) (.cons (.v (.int .i64 n.2.2.2.1)) (.cons (.rl q tI n.2.2.2.2.1) .nil))))
theorem lt_t {j n : Nat} (h : decide ((j : Int) < (n : Int)) = true) : j < n := Int.ofNat_lt.1 (of_decide_eq_true h)
theorem lt_f {j n : Nat} (h : decide ((j : Int) < (n : Int)) = false) : n ≤ j := Nat.le_of_not_lt fun hh => of_decide_eq_false h (Int.ofNat_lt.2 hh)
theorem wrapS {j : Nat} (h : j < 4611686018427387904) : IntKind.i64.wrap ((j : Int) + 1) = ((j + 1 : Nat) : Int) := by
  rw [IntKind.wrap_i64]; omega
abbrev u8 (x : Int) : El tU := (IntKind.u8.wrap x, ())
theorem wrapI {x : Int} (h1 : -9223372036854775808 ≤ x) (h2 : x ≤ 9223372036854775807) : IntKind.i64.wrap x = x := by
  rw [IntKind.wrap_i64]; omega
theorem toIn_len (n i : Int) : ∀ (k : Int) (l : List (El tI)), (toIn n i k l).length ≤ l.length
  | _, [] => Nat.le_refl _
  | k, x :: r => by
    have := toIn_len n i (k + 1) r
    simp only [toIn]
    split <;> simp <;> omega
theorem toOut_len (i : Int) {m : Nat} : ∀ (n : Int) (g : List Nd), (∀ x ∈ g, x.ins.length ≤ m) → (toOut i n g).length ≤ g.length * m
  | _, [], _ => Nat.zero_le _
  | n, x :: r, h => by
    have h1 := toIn_len n i 0 x.ins
    have h2 := h x (by simp)
    have h3 := toOut_len i (n + 1) r fun y hy => h y (by simp [hy])
    simp only [toOut, List.length_append, List.length_cons, Nat.add_mul]
    omega
theorem drop_get {t : Ty} (l : List (El t)) {j : Nat} (h : j < l.length) : l.drop j = getE t l j :: l.drop (j + 1) := by
  rw [List.drop_eq_getElem_cons h]
  congr 1
  unfold getE
  simp [List.getD, h]
theorem getE_mem {t : Ty} (l : List (El t)) {j : Nat} (h : j < l.length) : getE t l j ∈ l := by
  have := getE_ok h
  exact List.mem_of_getElem? this
end Go.Proofs.Ytdhpjpidcbplbaa

/- Rows of batches in plain Lean: what layer 17 answers. No program in sight. -/
namespace Go.Proofs.Ytdhpjpidcbplbaa
open Go Go.Proofs.Ytdhpjpidcbplbaa.Eng
abbrev tR : Ty := .int .i64 (.int .i64 .nil)
abbrev Rec := El tR
abbrev tQ : Ty := .int .i64 (.int .i64 (.int .i64 .nil))
abbrev Rw := El tQ
abbrev tB : Ty := .int .i64 (.int .i64 (.int .i64 (.int .i64 (.int .i64 (.sl tR .nil)))))
abbrev Ba := El tB
abbrev tBs : Ty := .sl tB .nil
abbrev QM := List (Rw × ElV (.el tBs))
abbrev tK : Ty := .int .u8 (.int .i64 (.int .i64 (.int .i64 (.int .i64 (.int .i64 (.int .i64 (.int .i64 (.int .i64 (.sl tR .nil)))))))))
abbrev Ca := El tK
def mayP (a b c : Int) : Prop := 0 ≤ a ∧ a < 32 ∧ 0 ≤ b ∧ b < 2 ∧ 0 ≤ c ∧ c < 64
instance (a b c : Int) : Decidable (mayP a b c) := by unfold mayP; infer_instance
def mayB (r : Rw) : Bool := decide (mayP r.1 r.2.1 r.2.2.1)
def atOk (b : Ba) : Bool := rT b.1 b.2.1 b.2.2.1 b.2.2.2.1 b.2.2.2.2.1
def recsB (b : Ba) : List Rec := b.2.2.2.2.2.1
def zB : Ba := (0, 0, 0, 0, 0, [], ())
def getQ (m : QM) (r : Rw) : List Ba := ((findM tQ r m).getD ([], ())).1
def putQ (m : QM) (r : Rw) (l : List Ba) : QM := putM tQ r (l, ()) m
def putP (m : QM) (r : Rw) (b : Ba) : Int × QM :=
  if mayB r = false then (2, m) else if atOk b = false then (50, m) else (0, putQ m r (getQ m r ++ [b]))
def takeQ (m : QM) (r : Rw) : Ba × Bool × QM :=
  match getQ m r with
  | [] => (zB, false, m)
  | b :: l => (b, true, if l.length = 0 then delM tQ r (putQ m r l) else putQ m r l)
end Go.Proofs.Ytdhpjpidcbplbaa

/- Layer 17: shapes; what the small functions do. -/
namespace Go.Proofs.Ytdhpjpidcbplbaa
set_option maxRecDepth 100000
open Go Go.RowKit Go.Proofs.Ytdhpjpidcbplbaa.Eng
def castM {α : Sort _} (kt kt' t t' : Ty) (l : List (El kt × El t)) (no : α) (K : List (El kt' × El t') → α) : α :=
  match sameTy kt kt' with
  | some ⟨h⟩ => (match sameTy t t' with
    | some ⟨h'⟩ => @Eq.rec Ty kt (fun kt' _ => (List (El kt' × El t') → α) → α) (fun K => @Eq.rec Ty t (fun t' _ => (List (El kt × El t') → α) → α) (fun K => K l) t' h' K) kt' h K
    | none => no)
  | none => no
theorem castM_ok {α : Sort _} {P : α → Prop} {kt kt' t t' : Ty} {l : List (El kt × El t)} {no : α} {K : List (El kt' × El t') → α} (hno : P no) (hK : ∀ (h : kt = kt') (h' : t = t'), P (K (h ▸ h' ▸ l))) : P (castM kt kt' t t' l no K) := by
  unfold castM
  split
  · rename_i h _
    split
    · rename_i h' _
      subst h h'
      exact hK rfl rfl
    · exact hno
  · exact hno
def shMap (ka va : Bool) (kt t : Ty) : ShO (List (El kt × ElV (.el t))) := ⟨fun
  | .mpo ka' va' kt' (.el t') none none l => if ka' = ka ∧ va' = va then castM kt' kt t' t l none some else none
  | _ => none, fun l => .mpo ka va kt (.el t) none none l, fun v x h => by
  split at h
  · rename_i ka' va' kt' t' l
    split at h
    · rename_i hh
      obtain ⟨rfl, rfl⟩ := hh
      revert h
      refine castM_ok (P := fun o : Option (List (El kt × El t)) => o = some x → _) (fun h => by cases h) fun e e' h => ?_
      subst e e'
      have h' : l = x := by simpa using h
      subst h'
      rfl
    · cases h
  · cases h⟩
def gMp (i : Nat) : AV → Option Unit
  | .mp j => bif Nat.beq i j then some () else none
  | _ => none
theorem gMp_ok {i : Nat} {v : AV} {x : Unit} (h : gMp i v = some x) : v = .mp i := by
  unfold gMp at h
  split at h
  · rename_i j
    cases hb : Nat.beq i j with
    | false => rw [hb] at h; cases h
    | true => rw [Nat.eq_of_beq_eq_true hb]
  · cases h
def shCM (i : Nat) : ShO Unit := shC (gMp i) (fun _ => .mp i) fun _ _ h => gMp_ok h
def k_rT : Sig := .arg shSt fun s => .done { pre := True, res := B s.ok }
set_option maxHeartbeats 2000000 in
theorem c_rT : FnOk Try.prog 26 k_rT.con := by
  refine fnOkS mixed tys_ok (cs := []) trivial Try.func26 rfl (by kernel_rfl) Try.ntmps26 _ (h := ?_)
  intro s
  refine ⟨rfl, fun _ => ?_⟩
  conv => whnf
  repeat' ((first
    | with_reducible first | refine ⟨fun h => h, ?_⟩ | refine ⟨pk1, ?_⟩ | refine ⟨pk2, ?_⟩ | refine ⟨pk3, ?_⟩ | refine ⟨pk4, ?_⟩ | refine ⟨pk5, ?_⟩ | refine ⟨pk6, ?_⟩ | refine ⟨trivial, ?_⟩ | refine ⟨fun _ => trivial, ?_⟩ | refine ⟨rfl, ?_⟩ | refine every_i (fun hd => ?_) | refine everyN_i (fun k hk => ?_) | refine everyD_i (fun d hd => ?_) | refine fork_t (by assumption) ?_ | refine fork_f (by assumption) ?_
    | refine fork_t rfl ?_
    | refine fork_f rfl ?_
    | with_reducible first | refine fork_i (fun h => ?_) (fun h => ?_) | refine unroll 4 ?_ | refine both_i ?_ ?_
    | ((with_reducible refine alike_i ?_); exact ⟨rfl, rfl, rfl⟩)
    | ((with_reducible refine fin_i ?_); (conv => whnf); refine ⟨rfl, ?_⟩)
    | refine ⟨of_decide_eq_true rfl, ?_⟩
    | refine ⟨fun _ => of_decide_eq_true rfl, ?_⟩
    | ((with_reducible refine ⟨?_, ?_⟩); (focus (intros; simp_all; done)))
    | ((with_reducible refine ⟨?_, ?_⟩); (focus (intros; omega)))) <;> (try (conv => whnf)))
  all_goals ((with_reducible refine leaf_i ?_); (conv => whnf))
  repeat' ((with_reducible refine And.intro ?_ ?_) <;> (try (conv => whnf)))
  all_goals (try (first | with_reducible rfl | exact True.intro | rfl | exact id | exact fun h => h | exact fun _ => rfl))
  all_goals (first | refine (rT_true ?_).symm | refine (rT_false ?_).symm)
  all_goals (simp [IntKind.wrap_i64] at *; unfold tOK; omega)
set_option maxHeartbeats 2000000 in
theorem c_rT' : FnOk Try.prog 35 k_rT.con := by
  refine fnOkS mixed tys_ok (cs := []) trivial Try.func35 rfl (by kernel_rfl) Try.ntmps35 _ (h := ?_)
  intro s
  refine ⟨rfl, fun _ => ?_⟩
  conv => whnf
  repeat' ((first
    | with_reducible first | refine ⟨fun h => h, ?_⟩ | refine ⟨pk1, ?_⟩ | refine ⟨pk2, ?_⟩ | refine ⟨pk3, ?_⟩ | refine ⟨pk4, ?_⟩ | refine ⟨pk5, ?_⟩ | refine ⟨pk6, ?_⟩ | refine ⟨trivial, ?_⟩ | refine ⟨fun _ => trivial, ?_⟩ | refine ⟨rfl, ?_⟩ | refine every_i (fun hd => ?_) | refine everyN_i (fun k hk => ?_) | refine everyD_i (fun d hd => ?_) | refine fork_t (by assumption) ?_ | refine fork_f (by assumption) ?_
    | refine fork_t rfl ?_
    | refine fork_f rfl ?_
    | with_reducible first | refine fork_i (fun h => ?_) (fun h => ?_) | refine unroll 4 ?_ | refine both_i ?_ ?_
    | ((with_reducible refine alike_i ?_); exact ⟨rfl, rfl, rfl⟩)
    | ((with_reducible refine fin_i ?_); (conv => whnf); refine ⟨rfl, ?_⟩)
    | refine ⟨of_decide_eq_true rfl, ?_⟩
    | refine ⟨fun _ => of_decide_eq_true rfl, ?_⟩
    | ((with_reducible refine ⟨?_, ?_⟩); (focus (intros; simp_all; done)))
    | ((with_reducible refine ⟨?_, ?_⟩); (focus (intros; omega)))) <;> (try (conv => whnf)))
  all_goals ((with_reducible refine leaf_i ?_); (conv => whnf))
  repeat' ((with_reducible refine And.intro ?_ ?_) <;> (try (conv => whnf)))
  all_goals (try (first | with_reducible rfl | exact True.intro | rfl | exact id | exact fun h => h | exact fun _ => rfl))
  all_goals (first | refine (rT_true ?_).symm | refine (rT_false ?_).symm)
  all_goals (simp [IntKind.wrap_i64] at *; unfold tOK; omega)
def k_below : Sig := .arg shI fun n => .arg shI fun m => .done { pre := True, res := B (decide (0 ≤ n ∧ n < m)) }
theorem c_below : FnOk Try.prog 39 k_below.con := by
  refine fnOkS mixed tys_ok (cs := []) trivial Try.func39 rfl (by kernel_rfl) Try.ntmps39 _ (h := ?_)
  intro n m
  refine ⟨rfl, fun _ => ?_⟩
  conv => whnf
  repeat' ((first
    | with_reducible first | refine ⟨fun h => h, ?_⟩ | refine ⟨pk1, ?_⟩ | refine ⟨pk2, ?_⟩ | refine ⟨pk3, ?_⟩ | refine ⟨pk4, ?_⟩ | refine ⟨pk5, ?_⟩ | refine ⟨pk6, ?_⟩ | refine ⟨trivial, ?_⟩ | refine ⟨fun _ => trivial, ?_⟩ | refine ⟨rfl, ?_⟩ | refine every_i (fun hd => ?_) | refine everyN_i (fun k hk => ?_) | refine everyD_i (fun d hd => ?_) | refine fork_t (by assumption) ?_ | refine fork_f (by assumption) ?_
    | refine fork_t rfl ?_
    | refine fork_f rfl ?_
    | with_reducible first | refine fork_i (fun h => ?_) (fun h => ?_) | refine both_i ?_ ?_
    | ((with_reducible refine alike_i ?_); exact ⟨rfl, rfl, rfl⟩)
    | ((with_reducible refine fin_i ?_); (conv => whnf); refine ⟨rfl, ?_⟩)
    | refine ⟨of_decide_eq_true rfl, ?_⟩
    | refine ⟨fun _ => of_decide_eq_true rfl, ?_⟩
    | ((with_reducible refine ⟨?_, ?_⟩); (focus (intros; simp_all; done)))
    | ((with_reducible refine ⟨?_, ?_⟩); (focus (intros; omega)))) <;> (try (conv => whnf)))
  all_goals ((with_reducible refine leaf_i ?_); (conv => whnf))
  repeat' ((with_reducible refine And.intro ?_ ?_) <;> (try (conv => whnf)))
  all_goals (try (first | with_reducible rfl | exact True.intro | rfl | exact id | exact fun h => h | exact fun _ => rfl))
  all_goals (rw [Bool.eq_iff_iff]; simp)
def k_may : Sig := .arg (shT tQ) fun r => .done { pre := True, res := B (mayB r) }
theorem c_may : FnOk Try.prog 25 k_may.con := by
  refine fnOkS mixed tys_ok (cs := [(39, k_below.con)]) ⟨c_below, trivial⟩ Try.func25 rfl (by kernel_rfl) Try.ntmps25 _ (h := ?_)
  intro r
  refine ⟨rfl, fun _ => ?_⟩
  conv => whnf
  repeat' ((first
    | with_reducible first | refine ⟨fun h => h, ?_⟩ | refine ⟨pk1, ?_⟩ | refine ⟨pk2, ?_⟩ | refine ⟨pk3, ?_⟩ | refine ⟨pk4, ?_⟩ | refine ⟨pk5, ?_⟩ | refine ⟨pk6, ?_⟩ | refine ⟨trivial, ?_⟩ | refine ⟨fun _ => trivial, ?_⟩ | refine ⟨rfl, ?_⟩ | refine every_i (fun hd => ?_) | refine everyN_i (fun k hk => ?_) | refine everyD_i (fun d hd => ?_) | refine fork_t (by assumption) ?_ | refine fork_f (by assumption) ?_
    | refine fork_t rfl ?_
    | refine fork_f rfl ?_
    | with_reducible first | refine fork_i (fun h => ?_) (fun h => ?_) | refine both_i ?_ ?_
    | ((with_reducible refine alike_i ?_); exact ⟨rfl, rfl, rfl⟩)
    | ((with_reducible refine fin_i ?_); (conv => whnf); refine ⟨rfl, ?_⟩)
    | refine ⟨of_decide_eq_true rfl, ?_⟩
    | refine ⟨fun _ => of_decide_eq_true rfl, ?_⟩
    | ((with_reducible refine ⟨?_, ?_⟩); (focus (intros; simp_all; done)))
    | ((with_reducible refine ⟨?_, ?_⟩); (focus (intros; omega)))) <;> (try (conv => whnf)))
  all_goals ((with_reducible refine leaf_i ?_); (conv => whnf))
  repeat' ((with_reducible refine And.intro ?_ ?_) <;> (try (conv => whnf)))
  all_goals (try (first | with_reducible rfl | exact True.intro | rfl | exact id | exact fun h => h | exact fun _ => rfl))
  all_goals (unfold mayB; rw [Bool.eq_iff_iff, decide_eq_true_eq]; unfold mayP; simp; try omega)
theorem c_may' : FnOk Try.prog 34 k_may.con := by
  refine fnOkS mixed tys_ok (cs := []) trivial Try.func34 rfl (by kernel_rfl) Try.ntmps34 _ (h := ?_)
  intro r
  refine ⟨rfl, fun _ => ?_⟩
  conv => whnf
  repeat' ((first
    | with_reducible first | refine ⟨fun h => h, ?_⟩ | refine ⟨pk1, ?_⟩ | refine ⟨pk2, ?_⟩ | refine ⟨pk3, ?_⟩ | refine ⟨pk4, ?_⟩ | refine ⟨pk5, ?_⟩ | refine ⟨pk6, ?_⟩ | refine ⟨trivial, ?_⟩ | refine ⟨fun _ => trivial, ?_⟩ | refine ⟨rfl, ?_⟩ | refine every_i (fun hd => ?_) | refine everyN_i (fun k hk => ?_) | refine everyD_i (fun d hd => ?_) | refine fork_t (by assumption) ?_ | refine fork_f (by assumption) ?_
    | refine fork_t rfl ?_
    | refine fork_f rfl ?_
    | with_reducible first | refine fork_i (fun h => ?_) (fun h => ?_) | refine both_i ?_ ?_
    | ((with_reducible refine alike_i ?_); exact ⟨rfl, rfl, rfl⟩)
    | ((with_reducible refine fin_i ?_); (conv => whnf); refine ⟨rfl, ?_⟩)
    | refine ⟨of_decide_eq_true rfl, ?_⟩
    | refine ⟨fun _ => of_decide_eq_true rfl, ?_⟩
    | ((with_reducible refine ⟨?_, ?_⟩); (focus (intros; simp_all; done)))
    | ((with_reducible refine ⟨?_, ?_⟩); (focus (intros; omega)))) <;> (try (conv => whnf)))
  all_goals ((with_reducible refine leaf_i ?_); (conv => whnf))
  repeat' ((with_reducible refine And.intro ?_ ?_) <;> (try (conv => whnf)))
  all_goals (try (first | with_reducible rfl | exact True.intro | rfl | exact id | exact fun h => h | exact fun _ => rfl))
  all_goals (unfold mayB; rw [Bool.eq_iff_iff, decide_eq_true_eq]; unfold mayP; simp; try omega)
def k_cloneR : Sig := .arg (shR tR) fun l => .done { pre := l.length ≤ 1000000000, res := .rl true tR l }
theorem c_cloneR : FnOk Try.prog 38 k_cloneR.con := by
  refine fnOkS mixed tys_ok (cs := []) trivial Try.func38 rfl (by kernel_rfl) Try.ntmps38 _ (h := ?_)
  intro l
  refine ⟨rfl, fun hp => ?_⟩
  conv => whnf
  repeat' ((first
    | with_reducible first | refine ⟨fun h => h, ?_⟩ | refine ⟨pk1, ?_⟩ | refine ⟨pk2, ?_⟩ | refine ⟨pk3, ?_⟩ | refine ⟨pk4, ?_⟩ | refine ⟨pk5, ?_⟩ | refine ⟨pk6, ?_⟩ | refine ⟨trivial, ?_⟩ | refine ⟨fun _ => trivial, ?_⟩ | refine ⟨rfl, ?_⟩ | refine every_i (fun hd => ?_) | refine everyN_i (fun k hk => ?_) | refine everyD_i (fun d hd => ?_) | refine fork_t (by assumption) ?_ | refine fork_f (by assumption) ?_
    | refine fork_t rfl ?_
    | refine fork_f rfl ?_
    | with_reducible first | refine fork_i (fun h => ?_) (fun h => ?_) | refine both_i ?_ ?_
    | ((with_reducible refine alike_i ?_); exact ⟨rfl, rfl, rfl⟩)
    | ((with_reducible refine fin_i ?_); (conv => whnf); refine ⟨rfl, ?_⟩)
    | refine ⟨hp, ?_⟩
    | refine ⟨of_decide_eq_true rfl, ?_⟩
    | refine ⟨fun _ => of_decide_eq_true rfl, ?_⟩
    | ((with_reducible refine ⟨?_, ?_⟩); (focus (intros; simp_all; done)))
    | ((with_reducible refine ⟨?_, ?_⟩); (focus (intros; omega)))) <;> (try (conv => whnf)))
  all_goals ((with_reducible refine leaf_i ?_); (conv => whnf))
  repeat' ((with_reducible refine And.intro ?_ ?_) <;> (try (conv => whnf)))
  all_goals (try (first | with_reducible rfl | exact True.intro | rfl | exact id | exact fun h => h | exact fun _ => rfl))
  all_goals exact emptyN_nil (by assumption) (by assumption)
def k_own : Sig := .arg (shT tB) fun b => .done { pre := (recsB b).length ≤ 1000000000, res := .agg (encC true tB b) }
theorem c_own : FnOk Try.prog 24 k_own.con := by
  refine fnOkS mixed tys_ok (cs := [(38, k_cloneR.con)]) ⟨c_cloneR, trivial⟩ Try.func24 rfl (by kernel_rfl) Try.ntmps24 _ (h := ?_)
  intro b
  refine ⟨rfl, fun hp => ?_⟩
  conv => whnf
  repeat' ((first
    | with_reducible first | refine ⟨fun h => h, ?_⟩ | refine ⟨pk1, ?_⟩ | refine ⟨pk2, ?_⟩ | refine ⟨pk3, ?_⟩ | refine ⟨pk4, ?_⟩ | refine ⟨pk5, ?_⟩ | refine ⟨pk6, ?_⟩ | refine ⟨trivial, ?_⟩ | refine ⟨fun _ => trivial, ?_⟩ | refine ⟨rfl, ?_⟩ | refine every_i (fun hd => ?_) | refine everyN_i (fun k hk => ?_) | refine everyD_i (fun d hd => ?_) | refine fork_t (by assumption) ?_ | refine fork_f (by assumption) ?_
    | refine fork_t rfl ?_
    | refine fork_f rfl ?_
    | with_reducible first | refine fork_i (fun h => ?_) (fun h => ?_) | refine both_i ?_ ?_
    | ((with_reducible refine alike_i ?_); exact ⟨rfl, rfl, rfl⟩)
    | ((with_reducible refine fin_i ?_); (conv => whnf); refine ⟨rfl, ?_⟩)
    | refine ⟨hp, ?_⟩
    | refine ⟨of_decide_eq_true rfl, ?_⟩
    | refine ⟨fun _ => of_decide_eq_true rfl, ?_⟩
    | ((with_reducible refine ⟨?_, ?_⟩); (focus (intros; simp_all; done)))
    | ((with_reducible refine ⟨?_, ?_⟩); (focus (intros; omega)))) <;> (try (conv => whnf)))
  all_goals ((with_reducible refine leaf_i ?_); (conv => whnf))
  repeat' ((with_reducible refine And.intro ?_ ?_) <;> (try (conv => whnf)))
  all_goals (try (first | with_reducible rfl | exact True.intro | rfl | exact id | exact fun h => h | exact fun _ => rfl))
def k_new : Sig := .done { pre := True, res := .ptr 0 0, new := [.cells (.cons (.mp 1) .nil), .mpo true false tQ (.el tBs) none none []] }
theorem c_new : FnOk Try.prog 10 k_new.con := by
  refine fnOkS mixed tys_ok (cs := []) trivial Try.func10 rfl (by kernel_rfl) Try.ntmps10 _ (h := ?_)
  refine ⟨rfl, fun hp => ?_⟩
  conv => whnf
  repeat' ((first
    | with_reducible first | refine ⟨fun h => h, ?_⟩ | refine ⟨pk1, ?_⟩ | refine ⟨pk2, ?_⟩ | refine ⟨pk3, ?_⟩ | refine ⟨pk4, ?_⟩ | refine ⟨pk5, ?_⟩ | refine ⟨pk6, ?_⟩ | refine ⟨trivial, ?_⟩ | refine ⟨fun _ => trivial, ?_⟩ | refine ⟨rfl, ?_⟩ | refine every_i (fun hd => ?_) | refine everyN_i (fun k hk => ?_) | refine everyD_i (fun d hd => ?_) | refine fork_t (by assumption) ?_ | refine fork_f (by assumption) ?_
    | refine fork_t rfl ?_
    | refine fork_f rfl ?_
    | with_reducible first | refine fork_i (fun h => ?_) (fun h => ?_) | refine both_i ?_ ?_
    | ((with_reducible refine alike_i ?_); exact ⟨rfl, rfl, rfl⟩)
    | ((with_reducible refine fin_i ?_); (conv => whnf); refine ⟨rfl, ?_⟩)
    | refine ⟨of_decide_eq_true rfl, ?_⟩
    | refine ⟨fun _ => of_decide_eq_true rfl, ?_⟩
    | ((with_reducible refine ⟨?_, ?_⟩); (focus (intros; simp_all; done)))
    | ((with_reducible refine ⟨?_, ?_⟩); (focus (intros; omega)))) <;> (try (conv => whnf)))
  all_goals ((with_reducible refine leaf_i ?_); (conv => whnf))
  repeat' ((with_reducible refine And.intro ?_ ?_) <;> (try (conv => whnf)))
  all_goals (try (first | with_reducible rfl | exact True.intro | rfl | exact id | exact fun h => h | exact fun _ => rfl))
end Go.Proofs.Ytdhpjpidcbplbaa

/- Layer 17: Put, Take. -/
namespace Go.Proofs.Ytdhpjpidcbplbaa
set_option maxRecDepth 100000
open Go Go.RowKit Go.Proofs.Ytdhpjpidcbplbaa.Eng
abbrev aoC : AO := .cells (.cons (.mp 1) .nil)
abbrev aoM (m : QM) : AO := .mpo true false tQ (.el tBs) none none m
abbrev shM : ShO QM := shMap true false tQ tBs
theorem putP_may {m : QM} {r : Rw} {b : Ba} (h : (!mayB r) = true) : putP m r b = (2, m) := by
  unfold putP; rw [if_pos (by simpa using h)]
theorem putP_at {m : QM} {r : Rw} {b : Ba} (h : (!mayB r) = false) (h2 : (!atOk b) = true) : putP m r b = (50, m) := by
  unfold putP; rw [if_neg (by simpa using h), if_pos (by simpa using h2)]
theorem putP_ok {m : QM} {r : Rw} {b : Ba} (h : (!mayB r) = false) (h2 : (!atOk b) = false) : putP m r b = (0, putQ m r (getQ m r ++ [b])) := by
  unfold putP; rw [if_neg (by simpa using h), if_neg (by simpa using h2)]
theorem takeQ_no {m : QM} {r : Rw} (h : (((getQ m r).length : Int) == 0) = true) : takeQ m r = (zB, false, m) := by
  have : getQ m r = [] := by
    have h : ((getQ m r).length : Int) = 0 := by simpa using h
    exact List.eq_nil_of_length_eq_zero (by omega)
  unfold takeQ; rw [this]
theorem takeQ_one {m : QM} {r : Rw} (h : (((getQ m r).length : Int) == 0) = false) (h1 : (((getQ m r).length : Int) == 1) = true) : takeQ m r = (getE tB (getQ m r) 0, true, delM tQ r (putQ m r ((getQ m r).drop 1))) := by
  have h1 : ((getQ m r).length : Int) = 1 := by simpa using h1
  obtain ⟨b, hb⟩ := List.length_eq_one_iff.1 (show (getQ m r).length = 1 by omega)
  unfold takeQ; rw [hb]; rfl
theorem takeQ_more {m : QM} {r : Rw} (h : (((getQ m r).length : Int) == 0) = false) (h1 : (((getQ m r).length : Int) == 1) = false) : takeQ m r = (getE tB (getQ m r) 0, true, putQ m r ((getQ m r).drop 1)) := by
  have h : ¬ ((getQ m r).length : Int) = 0 := by simpa using h
  have h1 : ¬ ((getQ m r).length : Int) = 1 := by simpa using h1
  unfold takeQ
  cases hq : getQ m r with
  | nil => rw [hq] at h; exact absurd rfl h
  | cons b l =>
    rw [hq] at h1
    have : ¬ l.length = 0 := by rw [List.length_cons] at h1; omega
    show (b, true, if l.length = 0 then delM tQ r (putQ m r l) else putQ m r l) = _
    rw [if_neg this]; rfl
def k_put : Sig := .arg (shPtr 0 0) fun _ => .arg (shT tQ) fun r => .arg (shT tB) fun b => .obj (shCM 1) fun _ => .obj shM fun m =>
  .done { pre := (recsB b).length ≤ 1000000000 ∧ (getQ m r).length < 1000000000, res := I (putP m r b).1, lent := [aoC, aoM (putP m r b).2] }
set_option maxHeartbeats 2000000 in
theorem c_put : FnOk Try.prog 12 k_put.con := by
  refine fnOkS mixed tys_ok (cs := [(25, k_may.con), (26, k_rT.con), (24, k_own.con)]) ⟨c_may, c_rT, c_own, trivial⟩ Try.func12 rfl (by kernel_rfl) Try.ntmps12 _ (h := ?_)
  rintro u ⟨r1, r2, r3, ⟨⟩⟩ ⟨d, e, x, y, z, rs, ⟨⟩⟩ u2 m
  refine ⟨rfl, fun hp => ?_⟩
  obtain ⟨hp1, hp2⟩ := hp
  generalize hq : ((findM tQ (r1, r2, r3, ()) m).getD ([], ())) = lq
  have hl : ∀ x : Ba, (List.take (lq.1.length : Int).toNat lq.1 ++ [x]).length ≤ 1000000000 := fun x => by
    unfold getQ at hp2; rw [hq] at hp2; simp; omega
  rw [← hq] at hl
  conv => whnf
  repeat' ((first
    | with_reducible first | refine ⟨fun h => h, ?_⟩ | refine ⟨pk1, ?_⟩ | refine ⟨pk2, ?_⟩ | refine ⟨pk3, ?_⟩ | refine ⟨pk4, ?_⟩ | refine ⟨pk5, ?_⟩ | refine ⟨pk6, ?_⟩ | refine ⟨trivial, ?_⟩ | refine ⟨fun _ => trivial, ?_⟩ | refine ⟨rfl, ?_⟩ | refine every_i (fun hd => ?_) | refine everyN_i (fun k hk => ?_) | refine everyD_i (fun d hd => ?_) | refine fork_t (by assumption) ?_ | refine fork_f (by assumption) ?_
    | refine fork_t rfl ?_
    | refine fork_f rfl ?_
    | with_reducible first | refine fork_i (fun h => ?_) (fun h => ?_) | refine both_i ?_ ?_
    | ((with_reducible refine alike_i ?_); exact ⟨rfl, rfl, rfl⟩)
    | ((with_reducible refine fin_i ?_); (conv => whnf); refine ⟨rfl, ?_⟩)
    | refine ⟨hp1, ?_⟩
    | refine ⟨hl _, ?_⟩
    | refine ⟨of_decide_eq_true rfl, ?_⟩
    | refine ⟨fun _ => of_decide_eq_true rfl, ?_⟩
    | ((with_reducible refine ⟨?_, ?_⟩); (focus (intros; simp_all; done)))
    | ((with_reducible refine ⟨?_, ?_⟩); (focus (intros; omega)))) <;> (try (conv => whnf)))
  all_goals ((with_reducible refine leaf_i ?_); (conv => whnf))
  repeat' ((with_reducible refine And.intro ?_ ?_) <;> (try (conv => whnf)))
  all_goals (try (first | with_reducible rfl | exact True.intro | rfl | exact id | exact fun h => h | exact fun _ => rfl))
  all_goals first
    | (rw [putP_may (by assumption)]; first | done | rfl)
    | (rw [putP_at (by assumption) (by assumption)]; first | done | rfl)
    | (rw [putP_ok (by assumption) (by assumption)]; first | done | rfl | (simp only [Int.toNat_natCast, List.take_length]; rfl))
    | trace_state
def k_take : Sig := .arg (shPtr 0 0) fun _ => .arg (shT tQ) fun r => .obj (shCM 1) fun _ => .obj shM fun m =>
  .done { pre := ∀ b ∈ getQ m r, (recsB b).length ≤ 1000000000, res := .tup (.cons (.agg (encC true tB (takeQ m r).1)) (.cons (B (takeQ m r).2.1) .nil)), lent := [aoC, aoM (takeQ m r).2.2] }
set_option maxHeartbeats 2000000 in
theorem c_take : FnOk Try.prog 11 k_take.con := by
  refine fnOkS mixed tys_ok (cs := [(24, k_own.con)]) ⟨c_own, trivial⟩ Try.func11 rfl (by kernel_rfl) Try.ntmps11 _ (h := ?_)
  rintro u ⟨r1, r2, r3, ⟨⟩⟩ u2 m
  refine ⟨rfl, fun hp => ?_⟩
  have h1 : ∀ l : List Ba, ((l.length : Int) == 0) = false → (0 ≤ (1 : Int) ∧ (1 : Int) ≤ (l.length : Int) ∧ (l.length : Int) ≤ (l.length : Int)) := fun l h => by
    have : ¬ (l.length : Int) = 0 := by simpa using h
    omega
  have h2 : ∀ l : List Ba, ((l.length : Int) == 0) = false → (0 ≤ (0 : Int) ∧ (0 : Int) < (l.length : Int)) := fun l h => by
    have : ¬ (l.length : Int) = 0 := by simpa using h
    omega
  have h3 : (((getQ m (r1, r2, r3, ())).length : Int) == 0) = false → (recsB (getE tB (getQ m (r1, r2, r3, ())) 0)).length ≤ 1000000000 := fun h => by
    have : ¬ ((getQ m (r1, r2, r3, ())).length : Int) = 0 := by simpa using h
    exact hp _ (getE_mem (getQ m (r1, r2, r3, ())) (j := 0) (by omega))
  conv => whnf
  repeat' ((first
    | with_reducible first | refine ⟨fun h => h, ?_⟩ | refine ⟨pk1, ?_⟩ | refine ⟨pk2, ?_⟩ | refine ⟨pk3, ?_⟩ | refine ⟨pk4, ?_⟩ | refine ⟨pk5, ?_⟩ | refine ⟨pk6, ?_⟩ | refine ⟨trivial, ?_⟩ | refine ⟨fun _ => trivial, ?_⟩ | refine ⟨rfl, ?_⟩ | refine every_i (fun hd => ?_) | refine everyN_i (fun k hk => ?_) | refine everyD_i (fun d hd => ?_) | refine fork_t (by assumption) ?_ | refine fork_f (by assumption) ?_
    | refine fork_t rfl ?_
    | refine fork_f rfl ?_
    | with_reducible first | refine fork_i (fun h => ?_) (fun h => ?_) | refine both_i ?_ ?_
    | ((with_reducible refine alike_i ?_); exact ⟨rfl, rfl, rfl⟩)
    | ((with_reducible refine fin_i ?_); (conv => whnf); refine ⟨rfl, ?_⟩)
    | refine ⟨h1 _ (by assumption), ?_⟩
    | refine ⟨h2 _ (by assumption), ?_⟩
    | refine ⟨h3 (by assumption), ?_⟩
    | refine ⟨of_decide_eq_true rfl, ?_⟩
    | refine ⟨fun _ => of_decide_eq_true rfl, ?_⟩
    | ((with_reducible refine ⟨?_, ?_⟩); (focus (intros; simp_all; done)))
    | ((with_reducible refine ⟨?_, ?_⟩); (focus (intros; omega)))) <;> (try (conv => whnf)))
  all_goals ((with_reducible refine leaf_i ?_); (conv => whnf))
  repeat' ((with_reducible refine And.intro ?_ ?_) <;> (try (conv => whnf)))
  all_goals (try (first | with_reducible rfl | exact True.intro | rfl | exact id | exact fun h => h | exact fun _ => rfl))
  all_goals first
    | (rw [takeQ_no (by assumption)]; first | done | rfl)
    | (rw [takeQ_one (by assumption) (by assumption)]; first | done | rfl)
    | (rw [takeQ_more (by assumption) (by assumption)]; first | done | rfl)
    | trace_state
end Go.Proofs.Ytdhpjpidcbplbaa

/- Layer 17: what ranges over a map's keys. -/
namespace Go.Proofs.Ytdhpjpidcbplbaa
set_option maxRecDepth 100000
open Go Go.RowKit Go.MapKept Go.Proofs.Ytdhpjpidcbplbaa.Eng
open Go.ChangeMaps (setBlock)
section
variable {F : Fence} {n : Nat} {P : Program} (w : World) {ops : Array Oper} {rest : List Oper} {o : Oper} {a : Act} {Q : Exit → Act → World → Prop}
theorem next_raw (hg : o.guard = none) (it : Operand) (hop : o.op = Op.next it false) {r b ck : Nat} {seen : Array Nat} {es : Array MapEntry} (hit : a.eval it = .pointer (some ⟨r, 0, none⟩))
    (q3 : w.heap[r]? = some (.mapIter (some b) ck seen ck)) (e2 : w.heap[b]? = some (.map es ck)) (hst : Stamped es ck)
    (hDone : (es.toList.filter fun e => !seen.contains e.born) = [] → wpListIn F n P ops Q rest (a.put o.dst (.tuple #[.bool false])) w)
    (hMore : ∀ (e : MapEntry) (w1 : World), e ∈ (es.toList.filter fun e => !seen.contains e.born) → (w1 = w ∨ w1 = w.drew) → wpListIn F n P ops Q rest (a.put o.dst (.tuple #[.bool true, e.key, e.val])) (setBlock w1 r (.mapIter (some b) ck (seen.push e.born) ck))) :
    wpListIn F n P ops Q (o :: rest) a w := by
  refine wpListIn_plain hg fun K' hK' => ?_
  unfold Oper.wpIn
  refine ⟨by simp [Oper.about, hop], ?_⟩
  rw [Oper.semAt_plain F _ _ (by rw [hop]; intro c hc'; cases hc')]
  have hlo : (Go.leftOf es seen).toList = es.toList.filter fun e => !seen.contains e.born := by unfold Go.leftOf; simp
  rcases run_next_at (P := P) w o.type r b ck ck seen es ck q3 e2 hst.1 (Nat.le_refl _) with ⟨hz, hr⟩ | ⟨e, he, w1, hw1, hr⟩
  · simp [execOp, hop, hit, hr, Result.andThen]
    exact hK' _ _ (hDone (by rw [← hlo]; exact List.eq_nil_of_length_eq_zero (by simpa using hz)))
  · simp [execOp, hop, hit, hr, Result.andThen]
    exact hK' _ _ (hMore e w1 (by rw [← hlo]; exact he) hw1)
theorem range_raw (hg : o.guard = none) (m : Operand) (t k e : TypeId) (hop : o.op = Op.range t m) (hu : P.underlying t = some (.map k e)) {b ck : Nat} {es : Array MapEntry} (hm : a.eval m = .map (some b)) (e2 : w.heap[b]? = some (.map es ck))
    (hK : wpListIn F n P ops Q rest (a.put o.dst (.pointer (some ⟨w.heap.size, 0, none⟩))) (w.alloc (.mapIter (some b) ck #[] ck))) :
    wpListIn F n P ops Q (o :: rest) a w := by
  refine wpListIn_plain hg fun K' hK' => ?_
  unfold Oper.wpIn
  refine ⟨by simp [Oper.about, hop], ?_⟩
  rw [Oper.semAt_plain F _ _ (by rw [hop]; intro c hc'; cases hc')]
  have hr : (execOp a.eval o).run P w = .ok (.value (.pointer (some ⟨w.heap.size, 0, none⟩))) (w.alloc (.mapIter (some b) ck #[] ck)) := by
    unfold execOp; rw [hop]
    simp [Sem.run_bind, hm, Instr.range, run_underlying hu, Go.MapKept.run_getObj_map (P := P) e2, Result.andThen_ok]
  rw [hr]
  exact hK' _ _ hK
theorem entry_raw (hg : o.guard = none) (it : Operand) (hop : o.op = Op.entry it) {r b ck : Nat} {seen : Array Nat} {es : Array MapEntry} {e : MapEntry} (hit : a.eval it = .pointer (some ⟨r, 0, none⟩))
    (q3 : w.heap[r]? = some (.mapIter (some b) ck (seen.push e.born) ck)) (e2 : w.heap[b]? = some (.map es ck)) (hst : Stamped es ck) (he : e ∈ es.toList)
    (hK : wpListIn F n P ops Q rest (a.put o.dst (.tuple #[e.key, e.val])) w) :
    wpListIn F n P ops Q (o :: rest) a w := by
  refine wpListIn_plain hg fun K' hK' => ?_
  unfold Oper.wpIn
  refine ⟨by simp [Oper.about, hop], ?_⟩
  rw [Oper.semAt_plain F _ _ (by rw [hop]; intro c hc'; cases hc')]
  have hr := run_entry_at (P := P) w r b ck seen es ck e q3 e2 he ((stamped_iff es ck).1 hst).2.1
  simp [execOp, hop, hit, hr, Result.andThen]
  exact hK' _ _ hK
end
def AbidesD {β : Type} (Bm : Nat) (J : β → World → Prop) : Prop :=
  ∀ s W W' row, J s W → W.grownBy W' row → W.drawn ≤ W'.drawn → (∀ r, row = some r → Bm ≤ r ∧ ∃ o : Obj, W.heap[r]? = some o ∧ o.isWalk = true) → J s W'
def SeqG {α : Type} (n : Nat) (P : Program) (g : Nat) (lb : Array Value) (enc : α → Value) (S : List α → Prop) (N : Nat) (w : World) : Prop :=
  ∀ (l : Nat) (J : List α → World → Prop) (W : World), Below w.heap.size w W → AbidesD W.heap.size J →
    (∀ pre x W1, J pre W1 → pre.length < N → YieldAt Fence.wide (n - 1) P l #[enc x] W1 fun e W' => e = .returned (.bool true) ∧ J (pre ++ [x]) W' ∧ KeepsWalks W1 W') →
    J [] W →
    CallsIn Fence.wide n P g (#[.func (.yield l) #[] #[]] ++ lb) W fun e W' => (∃ v, e = .returned v) ∧ ∃ xs, S xs ∧ J xs W'
theorem perm_erase {α : Type} : ∀ (l : List α) {k : Nat} {e : α}, l[k]? = some e → (e :: l.eraseIdx k).Perm l
  | [], _, _, h => by simp at h
  | a :: l, 0, e, h => by
    have : a = e := by simpa using h
    subst this; exact List.Perm.refl _
  | a :: l, k + 1, e, h => by
    have := perm_erase l (k := k) (e := e) (by simpa using h)
    exact (List.Perm.swap a e _).trans (List.Perm.cons a this)
def leftN (es : Array MapEntry) : Option Obj → Nat
  | some (.mapIter _ _ seen _) => (es.toList.filter fun e => !seen.contains e.born).length
  | _ => 0
abbrev fK1 : FuncId := 42
set_option maxHeartbeats 2000000 in
theorem keys1_in (n : Nat) (hn : 1 ≤ n) (l B b : Nat) (es : Array MapEntry) (ck : Nat) (J : List Rw → World → Prop)
    (hY : ∀ (pre : List Rw) (x : Rw) (W : World), J pre W → pre.length < es.size → YieldAt Fence.wide (n - 1) Try.prog l #[valE true tQ x] W fun e W' => e = .returned (.bool true) ∧ J (pre ++ [x]) W' ∧ KeepsWalks W W')
    (W : World) (hJ : AbidesD W.heap.size J) (hm : W.cell? ⟨B, 0, none⟩ = some (.map (some b))) (hb : W.heap[b]? = some (.map es ck)) (hst : Stamped es ck) (hk : ∀ e ∈ es.toList, ∃ x : Rw, e.key = valE true tQ x) (h0 : J [] W) :
    CallsIn Fence.wide n Try.prog fK1 #[.func (.yield l) #[] #[], .pointer (some ⟨B, 0, none⟩)] W fun e W' => (∃ v, e = .returned v) ∧ ∃ xs : List Rw, (xs.map (valE true tQ)).Perm (es.toList.map (·.key)) ∧ J xs W' := by
  have u63 : Try.prog.underlying 63 = some (.map 24 29) := by kernel_rfl
  refine callsIn_of_wp Try.func42 rfl trivial ?_ rfl
  simp only [Try.ntmps42, List.size_toArray, List.length_cons, List.length_nil, Nat.reduceAdd, Nat.reduceSub, Array.replicate_succ, Array.replicate_zero, List.push_toArray, List.append_toArray, List.nil_append, List.cons_append]
  gi_wp2_with (first
    | (gi_at_range; refine range_raw _ rfl _ _ _ _ rfl u63 rfl hb ?_)
    | gi_in)
  go_frame
  have hBs : B < W.heap.size := by
    unfold World.cell? at hm
    cases hq : W.heap[B]? with
    | none => simp [hq] at hm
    | some o => exact (Array.getElem?_eq_some_iff.1 hq).1
  have hbs : b < W.heap.size := (Array.getElem?_eq_some_iff.1 hb).1
  have hg0 : W.grownBy (W.alloc (.mapIter (some b) ck #[] ck)) none := World.grownBy_alloc _ _ _
  gi_loopw [3] (fun _ wr => ∃ (seen : Array Nat) (xs : List Rw), wr.heap[W.heap.size]? = some (.mapIter (some b) ck seen ck) ∧ wr.heap[b]? = some (.map es ck) ∧ W.heap.size < wr.heap.size ∧ (xs.map (valE true tQ) ++ (es.toList.filter fun e => !seen.contains e.born).map (·.key)).Perm (es.toList.map (·.key)) ∧ J xs wr)
    (fun _ wr => leftN es (wr.heap[W.heap.size]?))
  case atStart =>
    exact ⟨#[], [], World.alloc_heap_new W _, (hg0.block b hbs (by simp)).trans hb, by simp, by rw [List.map_nil, List.nil_append, List.filter_eq_self.2 (fun a _ => by simp)], hJ [] W _ none h0 hg0 (Nat.le_refl _) (fun r e => by cases e)⟩
  case round =>
    obtain ⟨seen, xs, q3, e2, hsz, hperm, hJs⟩ := hrel
    gi_wp2_with (first
      | (gi_at_next; refine next_raw _ rfl _ rfl rfl q3 e2 hst ?_ ?_)
      | gi_in)
    · intro hnil
      have hnil : (es.toList.filter fun e => !seen.contains e.born) = [] := by simpa using hnil
      gi_wp2
      go_end0
      exact ⟨⟨_, rfl⟩, xs, by rw [hnil, List.map_nil, List.append_nil] at hperm; exact hperm, hJs⟩
    · intro e w1 hes hborn hw1
      have hes' : e ∈ es.toList := by simpa using hes
      obtain ⟨⟨k1, k2, k3, ⟨⟩⟩, hx⟩ := hk e hes'
      obtain ⟨ek, ev, eb⟩ := e
      have hx : ek = .agg #[.int .i64 k1, .int .i64 k2, .int .i64 k3] := hx
      subst hx
      dsimp only at hborn ⊢
      have hh1 : w1.heap = wr.heap := by rcases hw1 with rfl | rfl <;> rfl
      obtain ⟨hr2, hoth⟩ := heap_set (w := w1) (r := W.heap.size) (o' := .mapIter (some b) ck (seen.push eb) ck) (by rw [hh1]; exact q3)
      have hg2 : wr.grownBy (setBlock w1 W.heap.size (.mapIter (some b) ck (seen.push eb) ck)) (some W.heap.size) :=
        ⟨by rcases hw1 with rfl | rfl <;> rfl, by rcases hw1 with rfl | rfl <;> rfl, by rcases hw1 with rfl | rfl <;> rfl, by unfold setBlock; simp [hh1], fun k hk hne => (hoth k (fun e => hne (by rw [e]))).trans (by rw [hh1])⟩
      have hJ2 := hJ xs wr _ _ hJs hg2 (by rcases hw1 with rfl | rfl; exact Nat.le_refl _; exact Nat.le_succ _) (fun r e => by cases e; exact ⟨Nat.le_refl _, _, q3, rfl⟩)
      have e22 : (setBlock w1 W.heap.size (.mapIter (some b) ck (seen.push eb) ck)).heap[b]? = some (.map es ck) := (hoth b (by omega)).trans (by rw [hh1]; exact e2)
      have hr2' : (setBlock w1 W.heap.size (.mapIter (some b) ck (seen.push eb) ck)).heap[W.heap.size]? = some (.mapIter (some b) ck (seen.push eb) ck) := hr2
      have hsz2 : (setBlock w1 W.heap.size (.mapIter (some b) ck (seen.push eb) ck)).heap.size = wr.heap.size := by unfold setBlock; simp [hh1]
      generalize setBlock w1 W.heap.size (.mapIter (some b) ck (seen.push eb) ck) = W2 at hJ2 e22 hr2' hsz2 ⊢
      clear hg2 hoth hr2 hh1 hw1
      have hmem : ({ key := .agg #[.int .i64 k1, .int .i64 k2, .int .i64 k3], val := ev, born := eb } : MapEntry) ∈ es.toList.filter fun e => !seen.contains e.born := List.mem_filter.2 ⟨hes', by simpa using hborn⟩
      have hlen : xs.length < es.size := by
        have h1 := hperm.length_eq
        have h2 := List.length_pos_of_mem hmem
        simp only [List.length_append, List.length_map, Array.length_toList] at h1
        omega
      have hJ3 := hJ xs W2 _ none hJ2 (World.grownBy_alloc W2 (.cells #[.int .i64 k1, .int .i64 k2, .int .i64 k3] 24) none) (Nat.le_refl _) (fun r e => by cases e)
      obtain ⟨fn, tmps, assign, body, hy, hR⟩ := hY xs (k1, k2, k3, ()) _ hJ3 hlen
      have hv3 : valE true tQ (k1, k2, k3, ()) = .agg #[.int .i64 k1, .int .i64 k2, .int .i64 k3] := rfl
      rw [hv3] at hy
      clear hv3
      clear hx hJ3 hJ2
      gi_wp2_with (first
        | (refine entry_raw _ rfl _ rfl rfl hr2' e22 hst hes' ?_)
        | gi_in)
      refine hR.mono ?_
      rintro e W3 ⟨rfl, hJ3, hk3⟩
      gi_wp2
      have hr3 := hk3.same W.heap.size _ ((World.grownBy_alloc W2 (.cells #[.int .i64 k1, .int .i64 k2, .int .i64 k3] 24) none).block W.heap.size (by omega) (by simp) ▸ hr2') rfl
      have hb3 := hk3.same b _ ((World.grownBy_alloc W2 (.cells #[.int .i64 k1, .int .i64 k2, .int .i64 k3] 24) none).block b (by omega) (by simp) ▸ e22) rfl
      have hs3 : wr.heap.size < W3.heap.size := by
        have := hk3.size
        rw [World.size_alloc] at this; omega
      obtain ⟨k, hkl, ek⟩ := List.getElem_of_mem hmem
      have hek : (es.toList.filter fun e => !seen.contains e.born)[k]? = some { key := .agg #[.int .i64 k1, .int .i64 k2, .int .i64 k3], val := ev, born := eb } := by rw [List.getElem?_eq_getElem hkl, ek]
      have hfe : (es.toList.filter fun e => !(seen.push eb).contains e.born) = (es.toList.filter fun e => !seen.contains e.born).eraseIdx k := by
        rw [seen_push, filter_erase _ k _ ?_ hek]
        exact ((stamped_iff es ck).1 hst).2.1.sublist (List.Sublist.map _ (List.filter_sublist))
      refine ⟨⟨seen.push eb, _, hr3, hb3, by omega, ?_, hJ3⟩, ?_⟩
      · rw [hfe, List.map_append, List.append_assoc]
        have := (perm_erase _ hek).map (·.key)
        exact (List.Perm.append_left _ this).trans hperm
      · rw [hr3, q3]
        show (es.toList.filter fun e => !(seen.push eb).contains e.born).length < (es.toList.filter fun e => !seen.contains e.born).length
        rw [hfe, List.length_eraseIdx, if_pos hkl]
        omega
theorem keys1_gives (n : Nat) (hn : 1 ≤ n) (B b : Nat) (es : Array MapEntry) (ck : Nat) (w : World) (hm : w.cell? ⟨B, 0, none⟩ = some (.map (some b))) (hb : w.heap[b]? = some (.map es ck)) (hst : Stamped es ck) (hk : ∀ e ∈ es.toList, ∃ x : Rw, e.key = valE true tQ x) :
    SeqG n Try.prog fK1 #[.pointer (some ⟨B, 0, none⟩)] (valE true tQ) (fun xs => (xs.map (valE true tQ)).Perm (es.toList.map (·.key))) es.size w := fun l J W hW hJ hY h0 => by
  have hBs : B < w.heap.size := by
    unfold World.cell? at hm
    cases hq : w.heap[B]? with
    | none => simp [hq] at hm
    | some o => exact (Array.getElem?_eq_some_iff.1 hq).1
  exact keys1_in n hn l B b es ck J hY W hJ ((hW.cell (p := ⟨B, 0, none⟩) hBs).trans hm) ((hW.block b (Array.getElem?_eq_some_iff.1 hb).1).trans hb) hst hk h0
end Go.Proofs.Ytdhpjpidcbplbaa

/- Layer 17: slices.AppendSeq over a map's keys. -/
namespace Go.Proofs.Ytdhpjpidcbplbaa
set_option maxRecDepth 100000
open Go Go.RowKit Go.MapKept Go.Sort Go.Proofs.Ytdhpjpidcbplbaa.Eng
open Go.ChangeMaps (setBlock)
abbrev tyS : TypeId := 45
abbrev tyE : TypeId := 24
abbrev cellsQ (ss : List Rw) : List Value := ss.flatMap (cellsE tQ)
def HasLoop (A Bo : Code) : Prop := ∃ r1 r2 r3, Try.f45.body = some (.seq r1 (.seq (.seq r2 (.block 0 (.rangeFunc (.tmp 6) #[7] A Bo))) r3))
def apRec (A Bo : Code) (fn : FuncId) (sv : Value) (Bs D : Nat) (st : LoopState) (pend : Option Code) : Loop :=
  { state := st, pending := pend, fn, tmps := #[.slice none 0 0, sv, .pointer (some ⟨Bs, 0, none⟩), undef, .slice none 0 0, undef, sv, undef, undef, undef, undef, undef, undef], params := #[7], assign := A, body := Bo, defers := D }
structure ApAt (A Bo : Code) (w0 : World) (fn : FuncId) (sv : Value) (Bs l D : Nat) (ss : List Rw) (W : World) : Prop where
  box : ∃ v, W.heap[Bs]? = some (.cells #[v] tyS (0, 0)) ∧ W.ownsRow w0.heap.size tyE 3 v ss.length (cellsQ ss)
  L : W.heap[l]? = some (.loop (apRec A Bo fn sv Bs D .ready none))
  K : W.heap[D]? = some (.deferred (some []))
  below : Below w0.heap.size w0 W
  dr : w0.drawn ≤ W.drawn
theorem ap_abides (A Bo : Code) (w0 : World) (fn : FuncId) (sv : Value) (Bs l D Bm : Nat) (hB : w0.heap.size ≤ Bm) : AbidesD Bm (ApAt A Bo w0 fn sv Bs l D) := fun s W W' row h hg hdr hrow => by
  have hrow' : ∀ r, row = some r → ∃ o : Obj, W.heap[r]? = some o ∧ o.isWalk = true := fun r e => (hrow r e).2
  obtain ⟨v, hv, hr⟩ := h.box
  exact ⟨⟨v, (grownBy_keeps hg hrow' hv rfl).trans hv, ownsRow_abides_a hr hg hrow'⟩, (grownBy_keeps hg hrow' h.L rfl).trans h.L, (grownBy_keeps hg hrow' h.K rfl).trans h.K,
    h.below.grown hg h.below.size (fun k e => Nat.le_trans hB (hrow k e).1), Nat.le_trans h.dr hdr⟩
section
variable {P : Program} (w : World)
theorem append_dr (base : Nat) (t ty e : TypeId) (i : TypeInfo) (z : Value) (size bytes : Nat) (ht : P.underlying t = some (.slice e)) (hi : P.info? e = some i) (hz : i.zero = some z)
    (hsize : i.size = size) (hby : i.bytes = bytes) (v : Value) (n : Nat) (xs : List Value) (hown : w.ownsRow base e size v n xs)
    (a : Addr) (m c : Nat) (news : List Value) (hl : news.length = m * size) (hnews : ∀ j u, news[j]? = some u → w.cell? (a.add j) = some u) (h1 : ∀ u ∈ news, u.oneCell' = true) (hm : 0 < m)
    (h63 : n + m ≤ maxLen) (hbytes : (n + m) * bytes ≤ 140737488355328) {v' : Value} {w' : World} (hrun : (Builtin.append_ #[t, t] ty #[v, .slice (some a) m c]).run P w = .ok v' w') : w.drawn ≤ w'.drawn := by
  subst hsize hby
  have hsmall : n + m ≤ 9223372036854775807 := by simp only [maxLen] at h63; omega
  rcases hown.2 with ⟨rfl, rfl⟩ | ⟨g, cap, cur, rfl, hbg, hg, hnc, hcm, hcs, htake⟩
  · have hr := run_append_nil (P := P) w t ty e i z ht hi hz a m c news hl hnews (by omega) (by omega) (by have hb := hbytes; simp only [Nat.zero_add] at hb; omega)
    rw [hr] at hrun
    injection hrun with _ he
    rw [← he]; exact Nat.le_succ _
  · by_cases hroom : n + m ≤ cap
    · have hfit : n * i.size + news.length ≤ cur.size := by rw [hl, hcs, ← Nat.add_mul]; exact Nat.mul_le_mul_right _ hroom
      have hr := run_append_room (P := P) w t ty e i ht hi g n cap cur hg a m c news hl hnews h1 hroom hfit
      rw [hr] at hrun
      injection hrun with _ he
      rw [← he]; exact Nat.le_refl _
    · have holds : ∀ j u, xs[j]? = some u → w.cell? ((⟨g, 0, none⟩ : Addr).add j) = some u := hown.cells (g := g) rfl
      have hr := run_append_grow (P := P) w t ty e i z ht hi hz ⟨g, 0, none⟩ n cap xs hown.1 holds a m c news hl hnews (by omega) (by omega) (growslice_fits (by omega) hbytes)
      rw [hr] at hrun
      injection hrun with _ he
      rw [← he]; exact Nat.le_succ _
theorem append_step {F : Fence} {nf : Nat} {ops : Array Oper} {rest : List Oper} {o : Oper} {a : Act} {Q : Exit → Act → World → Prop}
    (hg : o.guard = none) (s x : Operand) (t : TypeId) (hop : o.op = Op.call { callee := Callee.builtin Builtin.append, args := #[s, x], argTypes := #[t, t] })
    (base : Nat) (e : TypeId) (i : TypeInfo) (z : Value) (size bytes : Nat) (h1 : P.underlying t = some (.slice e)) (h2 : P.info? e = some i) (h3 : i.zero = some z) (h4 : i.size = size) (h5 : i.bytes = bytes) (h6 : z.cells.size = size) (h7 : 0 < size)
    (v : Value) (k : Nat) (xs : List Value) (hs : a.eval s = v) (hown : w.ownsRow base e size v k xs) (ad : Addr) (m c : Nat) (hm : 0 < m) (news : List Value) (hx : a.eval x = .slice (some ad) m c) (hn : news.length = m * size)
    (hc : ∀ j u, news[j]? = some u → w.cell? (ad.add j) = some u) (h1c : ∀ u ∈ news, u.oneCell' = true) (b1 : k + m ≤ maxLen) (b2 : (k + m) * bytes ≤ 140737488355328) (b3 : base ≤ w.heap.size)
    (hK : ∀ v' w', w'.ownsRow base e size v' (k + m) (xs ++ news) → w.grownBy w' v.ownBlock → w.drawn ≤ w'.drawn → wpListIn F nf P ops Q rest (a.put o.dst v') w') :
    wpListIn F nf P ops Q (o :: rest) a w := by
  refine wpListIn_plain hg fun K hK' => ?_
  obtain ⟨v', w', hrun, r1, r2, r3⟩ := run_append_own (P := P) w base t o.type e i z size bytes h1 h2 h3 h4 h5 h6 h7 v k xs hown ad m c news hn hc h1c b1 b2 b3
  have hdr := append_dr w base t o.type e i z size bytes h1 h2 h3 h4 h5 v k xs hown ad m c news hn hc h1c hm b1 b2 hrun
  unfold Oper.wpIn
  refine ⟨by simp [Oper.about, hop, resolve, Target.leads, Sem.run_pure], ?_⟩
  rw [Oper.semAt_plain F _ _ (by rw [hop]; intro c hc'; cases hc')]
  simp [execOp, hop, resolve, invoke, builtin, hs, hx, hrun, Result.andThen]
  exact hK' _ _ (hK v' w' r1 r2 hdr)
end
set_option maxHeartbeats 4000000 in
theorem apYield {A Bo : Code} (hc : HasLoop A Bo) (m : Nat) (w0 : World) (fn : FuncId) (sv : Value) (Bs l D : Nat) (hBl : Bs ≠ l) (hDl : D ≠ l) (hDB : D ≠ Bs) (h0B : w0.heap.size ≤ Bs) (h0l : w0.heap.size ≤ l)
    (N : Nat) (hN : N ≤ maxLen) (hNb : N * 24 ≤ 140737488355328) (ss : List Rw) (x : Rw) (W : World) (h : ApAt A Bo w0 fn sv Bs l D ss W) (hlen : ss.length < N) :
    YieldAt Fence.wide m Try.prog l #[valE true tQ x] W fun e W' => e = .returned (.bool true) ∧ ApAt A Bo w0 fn sv Bs l D (ss ++ [x]) W' ∧ KeepsWalks W W' := by
  have t45 : Try.prog.underlying tyS = some (.slice tyE) := by kernel_rfl
  obtain ⟨i0, hi, hz0, hz1, hz2⟩ : ∃ i, Try.prog.info? tyE = some i ∧ i.zero = some (.agg #[.int .i64 0, .int .i64 0, .int .i64 0]) ∧ i.size = 3 ∧ i.bytes = 24 := by
    have q1 : (Try.prog.info? tyE).map (·.zero) = some (some (.agg #[.int .i64 0, .int .i64 0, .int .i64 0])) := by kernel_rfl
    have q2 : (Try.prog.info? tyE).map (·.size) = some 3 := by kernel_rfl
    have q3 : (Try.prog.info? tyE).map (·.bytes) = some 24 := by kernel_rfl
    cases hq : Try.prog.info? tyE with
    | none => rw [hq] at q1; cases q1
    | some i => rw [hq] at q1 q2 q3; simp at q1 q2 q3; exact ⟨i, rfl, q1, q2, q3⟩
  obtain ⟨k1, k2, k3, ⟨⟩⟩ := x
  have hv3 : valE true tQ (k1, k2, k3, PUnit.unit) = .agg #[.int .i64 k1, .int .i64 k2, .int .i64 k3] := rfl
  rw [hv3]
  obtain ⟨v, hv, hrow⟩ := h.box
  refine ⟨fn, #[.slice none 0 0, sv, .pointer (some ⟨Bs, 0, none⟩), undef, .slice none 0 0, undef, sv, .agg #[.int .i64 k1, .int .i64 k2, .int .i64 k3], undef, undef, undef, undef, undef], A, Bo, by simpa [apRec] using run_yield (P := Try.prog) (args := #[.agg #[.int .i64 k1, .int .i64 k2, .int .i64 k3]]) h.L rfl, roundIn_of_wpIn trivial ?_⟩
  have hne : tyS ≠ tyE := by decide
  have hl : l < W.heap.size := (Array.getElem?_eq_some_iff.1 h.L).1
  obtain ⟨W1, hW1⟩ : ∃ W1, W.alloc (.cells #[.int .i64 k1, .int .i64 k2, .int .i64 k3] tyE) = W1 := ⟨_, rfl⟩
  have hgA : W.grownBy W1 none := by rw [← hW1]; exact World.grownBy_alloc _ _ _
  have hs1 : W1.heap.size = W.heap.size + 1 := by rw [← hW1]; simp
  have hnew : W1.heap[W.heap.size]? = some (.cells #[.int .i64 k1, .int .i64 k2, .int .i64 k3] tyE (0, 0)) := by rw [← hW1]; exact World.alloc_heap_new W _
  have hkA : KeepsWalks W W1 := by rw [← hW1]; exact KeepsWalks.alloc _ _
  have hL1 : W1.heap[l]? = some (.loop (apRec A Bo fn sv Bs D .ready none)) := (hgA.block l hl (by simp)).trans h.L
  have hbr := run_beginRound (P := Try.prog) hL1 rfl
  obtain ⟨W2, hW2⟩ : ∃ W2, W1.putObj l (.loop { apRec A Bo fn sv Bs D .ready none with state := .busy }) = W2 := ⟨_, rfl⟩
  rw [hW2] at hbr
  have hlne : l ≠ W.heap.size := by omega
  have hBlt0 : Bs < W.heap.size := (Array.getElem?_eq_some_iff.1 hv).1
  have hDlt0 : D < W.heap.size := (Array.getElem?_eq_some_iff.1 h.K).1
  have hg2 : W1.grownBy W2 (some l) := by rw [← hW2]; exact grownBy_putObj_a _ _ _
  have hk2 : KeepsWalks W W2 := hkA.trans (by rw [← hW2]; exact KeepsWalks.putObj _ hL1 rfl)
  have old : ∀ k, k < W.heap.size → k ≠ l → W2.heap[k]? = W.heap[k]? := fun k hk hkl => (hg2.block k (by omega) (fun e => hkl (by cases e; rfl))).trans (hgA.block k hk (by simp))
  have hv2 : W2.heap[Bs]? = some (.cells #[v] tyS (0, 0)) := (old Bs hBlt0 hBl).trans hv
  have hK2 : W2.heap[D]? = some (.deferred (some [])) := (old D hDlt0 hDl).trans h.K
  have hL2 : W2.heap[l]? = some (.loop { apRec A Bo fn sv Bs D .ready none with state := .busy }) := by rw [← hW2]; exact World.putObj_heap_same (by omega)
  have hn2 : W2.heap[W.heap.size]? = some (.cells #[.int .i64 k1, .int .i64 k2, .int .i64 k3] tyE (0, 0)) := (hg2.block _ (by omega) (fun e => hlne (by cases e; rfl))).trans hnew
  have hrow1 : W1.ownsRow w0.heap.size tyE 3 v ss.length (cellsQ ss) := by rw [← hW1]; exact hrow.alloc _
  have hrow2 : W2.ownsRow w0.heap.size tyE 3 v ss.length (cellsQ ss) := hrow1.kept hg2 (ownsRow_ne_a hrow1 hL1 (fun cur e => by cases e))
  have hb2 : Below w0.heap.size w0 W2 := (by rw [← hW1] at hg2; exact (h.below.alloc h.below.size _).grown hg2 (by have := h.below.size; simp; omega) (fun k e => by cases e; exact h0l))
  have hdr2 : w0.drawn ≤ W2.drawn := by rw [← hW2, ← hW1]; exact h.dr
  have hsz2 : W2.heap.size = W.heap.size + 1 := by rw [← hW2]; simp [hs1]
  obtain ⟨hc2, hf2⟩ := cell_of_box_a hv2
  have c0 : W2.cell? ⟨W.heap.size, 0, none⟩ = some (.int .i64 k1) := by simp [World.cell?, hn2]
  have c1 : W2.cell? ⟨W.heap.size, 1, none⟩ = some (.int .i64 k2) := by simp [World.cell?, hn2]
  have c2 : W2.cell? ⟨W.heap.size, 2, none⟩ = some (.int .i64 k3) := by simp [World.cell?, hn2]
  have ne_of : ∀ {j : Nat} {o : Obj}, W2.heap[j]? = some o → (∀ cur, o ≠ .cells cur tyE (0, 0)) → some j ≠ v.ownBlock := fun hj hno => by
    rcases ownsRow_ne_a hrow2 hj hno with e | e
    · rw [e]; simp
    · exact fun e' => e e'.symm
  clear hW2
  obtain ⟨r1, r2, r3, hc⟩ := hc
  cases hc
  have hlit : ∀ j u, ([.int .i64 k1, .int .i64 k2, .int .i64 k3] : List Value)[j]? = some u → (W2.alloc (.cells #[.int .i64 k1, .int .i64 k2, .int .i64 k3] tyE)).cell? ((⟨W2.heap.size, 0, none⟩ : Addr).add j) = some u := fun j u hu => by
    have hh := World.alloc_heap_new W2 (.cells #[.int .i64 k1, .int .i64 k2, .int .i64 k3] tyE)
    rw [Addr.add_mid]
    simp only [World.cell?, hh, Nat.zero_add]
    simpa using hu
  rw [← hsz2] at *
  gi_wp2_with (first
    | (gi_at_builtin; refine append_step _ rfl _ _ tyS rfl w0.heap.size tyE i0 (.agg #[.int .i64 0, .int .i64 0, .int .i64 0]) 3 24 t45 hi hz0 hz1 hz2 rfl (by decide) _ _ _ rfl (hrow2.alloc _) ⟨W2.heap.size, 0, none⟩ 1 1 Nat.one_pos [.int .i64 k1, .int .i64 k2, .int .i64 k3] rfl rfl hlit (by simp [Value.oneCell']) (by omega) (by omega) (by have := hb2.size; simp; omega) ?_; intro v' w3 hown' hg3 hdr3
       have hBlt2 : Bs < W2.heap.size := (Array.getElem?_eq_some_iff.1 hv2).1
       have hv3 : w3.heap[Bs]? = some (.cells #[v] tyS (0, 0)) := (hg3.block Bs (by simp; omega) (ne_of hv2 (fun cur e => by cases e))).trans ((Below.heap_alloc _ _ Bs hBlt2).trans hv2)
       obtain ⟨hc3, hf3⟩ := cell_of_box_a hv3
       obtain ⟨g', cap', cur', rfl, hbase', hgb', hr1, hr2, hr3, hr4⟩ : ∃ g' cap' cur', v' = .slice (some ⟨g', 0, none⟩) (ss.length + 1) cap' ∧ w0.heap.size ≤ g' ∧ w3.heap[g']? = some (.cells cur' tyE (0, 0)) ∧ ss.length + 1 ≤ cap' ∧ cap' ≤ maxLen ∧ cur'.size = cap' * 3 ∧ cur'.toList.take ((ss.length + 1) * 3) = cellsQ ss ++ [.int .i64 k1, .int .i64 k2, .int .i64 k3] := by
         rcases hown'.2 with ⟨_, h0⟩ | h'
         · exact absurd h0 (by omega)
         · exact h'
       go_frame)
    | (rw [Oper.semAt_eq _ _ _ (fun c h => by cases h)]; go_simp; try go_bits))
  have hl2 : l < W2.heap.size := (Array.getElem?_eq_some_iff.1 hL2).1
  have hDlt : D < W2.heap.size := (Array.getElem?_eq_some_iff.1 hK2).1
  have hBlt2 : Bs < W2.heap.size := (Array.getElem?_eq_some_iff.1 hv2).1
  have hg3' : (W2.alloc (.cells #[.int .i64 k1, .int .i64 k2, .int .i64 k3] tyE)).grownBy w3 v.ownBlock := hg3
  have hv3 : w3.heap[Bs]? = some (.cells #[v] tyS (0, 0)) := (hg3'.block Bs (by simp; omega) (ne_of hv2 (fun cur e => by cases e))).trans ((Below.heap_alloc _ _ Bs hBlt2).trans hv2)
  have hL3 := (hg3'.block l (by simp; omega) (ne_of hL2 (fun cur e => by cases e))).trans ((Below.heap_alloc _ _ l hl2).trans hL2)
  have hK3 : w3.heap[D]? = some (.deferred (some [])) := (hg3'.block D (by simp; omega) (ne_of hK2 (fun cur e => by cases e))).trans ((Below.heap_alloc _ _ D hDlt).trans hK2)
  obtain ⟨w4, hw4⟩ : ∃ w4, w3.setCell ⟨Bs, 0, none⟩ (.slice (some ⟨g', 0, none⟩) (ss.length + 1) cap') = w4 := ⟨_, rfl⟩
  rw [hw4]
  have hg4 : w3.grownBy w4 (some Bs) := by rw [← hw4]; exact grownBy_setCell0_a _ _ _
  have hv4 : w4.heap[Bs]? = some (.cells #[.slice (some ⟨g', 0, none⟩) (ss.length + 1) cap'] tyS (0, 0)) := by rw [← hw4]; exact heap_setCell_box_a _ hv3
  have hL4 := (hg4.block l (Array.getElem?_eq_some_iff.1 hL3).1 (fun e => hBl (by cases e; rfl))).trans hL3
  have hK4 : w4.heap[D]? = some (.deferred (some [])) := (hg4.block D (Array.getElem?_eq_some_iff.1 hK3).1 (fun e => hDB (by cases e; rfl))).trans hK3
  have hrow4 := hown'.kept hg4 (ownsRow_ne_a hown' hv3 (fun cur e => by cases e))
  have hl4 : l < w4.heap.size := (Array.getElem?_eq_some_iff.1 hL4).1
  have hb3 : Below w0.heap.size w0 w3 := (hb2.alloc hb2.size _).grown hg3' (by have := hb2.size; simp; omega) (fun k e => (hrow2.lt k e).1)
  have hb4 : Below w0.heap.size w0 w4 := hb3.grown hg4 hb3.size (fun k e => by cases e; exact h0B)
  have hdr4 : w0.drawn ≤ w4.drawn := Nat.le_trans hdr2 (Nat.le_trans (show W2.drawn ≤ w3.drawn from hdr3) (by rw [← hw4]; exact Nat.le_refl _))
  have hk4 : KeepsWalks W w4 := ((hk2.trans (KeepsWalks.alloc _ _)).trans (KeepsWalks.of_grownBy hg3' (ownsRow_not_walk_a (hrow2.alloc _)))).trans (by rw [← hw4]; exact KeepsWalks.setCell _ _ _)
  clear hw4
  refine ⟨_, _, run_endRound none hL4, rfl, ⟨⟨_, (World.putObj_heap_other hBl).trans hv4, ?_⟩, World.putObj_heap_same hl4, (World.putObj_heap_other hDl).trans hK4, hb4.grown (grownBy_putObj_a _ _ _) hb4.size (fun k e => by cases e; exact h0l), hdr4⟩, hk4.trans (KeepsWalks.putObj _ hL4 rfl)⟩
  have hcq : cellsQ (ss ++ [(k1, k2, k3, PUnit.unit)]) = cellsQ ss ++ [.int .i64 k1, .int .i64 k2, .int .i64 k3] := by simp [cellsQ, cellsE]
  rw [hcq, List.length_append]
  exact hrow4.kept (grownBy_putObj_a w4 l _) (ownsRow_ne_a hrow4 hL4 (fun cur e => by cases e))
set_option maxHeartbeats 4000000 in
theorem appendSeq_in (n : Nat) (hn : 2 ≤ n) (g : Nat) (lb : Array Value) (eg : ∀ args w, (callFunc g args).run Try.prog w = .ok (.enter g args) w)
    (S : List Rw → Prop) (N : Nat) (hN : N ≤ maxLen) (hNb : N * 24 ≤ 140737488355328) (w : World) (hseq : SeqG (n - 1) Try.prog g lb (valE true tQ) S N w) :
    CallsIn Fence.wide n Try.prog 45 #[.slice none 0 0, .func (.func g) #[] lb] w fun e w' => ∃ (v : Value) (ss : List Rw), e = .returned v ∧ S ss ∧ w'.ownsRow w.heap.size tyE 3 v ss.length (cellsQ ss) ∧ Below w.heap.size w w' ∧ w.drawn ≤ w'.drawn := by
  have h1 : 1 ≤ n := by omega
  have u45 : Try.prog.underlying tyS = some (.slice tyE) := by kernel_rfl
  refine callsIn_of_wp_marks Try.func45 rfl trivial ?_ rfl
  simp only [Try.ntmps45, List.size_toArray, List.length_cons, List.length_nil, Nat.reduceAdd, Nat.reduceSub, Array.replicate_succ, Array.replicate_zero, List.push_toArray, List.append_toArray, List.nil_append, List.cons_append]
  gi_wp2
  refine wpIn_rangeFunc ?_
  intro fn hfn
  obtain ⟨A, Bo, hc⟩ : ∃ A Bo, HasLoop A Bo := ⟨_, _, _, _, _, rfl⟩
  have hcl := hc
  obtain ⟨r1, r2, r3, hc⟩ := hc
  delta Try.f45 at hc
  dsimp only at hc
  injection hc with hc
  injection hc with _ hc
  injection hc with hc _
  injection hc with _ hc
  injection hc with _ hc
  injection hc with _ _ hA hB
  rw [hA, hB]
  clear hA hB
  obtain ⟨W0, hW0⟩ : ∃ W0, w.alloc (.cells #[.slice none 0 0] tyS) = W0 := ⟨_, rfl⟩
  have hs0 : W0.heap.size = w.heap.size + 1 := by rw [← hW0]; simp
  have hv0 : W0.heap[w.heap.size]? = some (.cells #[.slice none 0 0] tyS (0, 0)) := by rw [← hW0]; exact World.alloc_heap_new w _
  have hb0 : Below w.heap.size w W0 := by rw [← hW0]; exact (Below.refl _ w).alloc (Nat.le_refl _) _
  rw [hW0]
  obtain ⟨W1, hW1⟩ : ∃ W1, (W0.alloc (.deferred (some []))).alloc (.loop (apRec A Bo fn (.func (.func g) #[] lb) w.heap.size W0.heap.size .ready none)) = W1 := ⟨_, rfl⟩
  have hold : ∀ k, k < W0.heap.size → W1.heap[k]? = W0.heap[k]? := fun k hk => by
    rw [← hW1]; exact (Below.heap_alloc _ _ k (by simp; omega)).trans (Below.heap_alloc _ _ k hk)
  have hb1 : Below w.heap.size w W1 := by rw [← hW1]; exact (hb0.alloc hb0.size _).alloc (by have := hb0.size; simp; omega) _
  have hs1 : W1.heap.size = W0.heap.size + 2 := by rw [← hW1]; simp
  have hM : ApAt A Bo w fn (.func (.func g) #[] lb) w.heap.size (W0.heap.size + 1) W0.heap.size [] W1 :=
    ⟨⟨_, (hold w.heap.size (by omega)).trans hv0, ⟨rfl, .inl ⟨rfl, rfl⟩⟩⟩,
     by rw [← hW1]; have := World.alloc_heap_new (W0.alloc (.deferred (some []))) (.loop (apRec A Bo fn (.func (.func g) #[] lb) w.heap.size W0.heap.size .ready none)); rwa [World.size_alloc] at this,
     by rw [← hW1]; exact (Below.heap_alloc _ _ _ (by simp)).trans (World.alloc_heap_new W0 _), hb1, by rw [← hW1, ← hW0]; exact Nat.le_refl _⟩
  refine ⟨W0.heap.size + 1, [{ target := .collected W0.heap.size, args := #[] }], W1, { target := .fn (.func g) lb, args := #[.func (.yield (W0.heap.size + 1)) #[] #[]] }, W1, g,
    #[.func (.yield (W0.heap.size + 1)) #[] #[]] ++ lb, W1, ?_, ?_, fun _ _ => trivial, ?_, fun _ => h1, ?_⟩
  · rw [← hW1]; exact run_enterLoop_outer _ _ _ _ _
  · simp [resolve, go_sem]
  · simp [invoke, go_sem, eg]
  · refine (hseq (W0.heap.size + 1) (ApAt A Bo w fn (.func (.func g) #[] lb) w.heap.size (W0.heap.size + 1) W0.heap.size) W1 hb1 (ap_abides A Bo _ _ _ _ _ _ _ hb1.size)
      (fun pre x W hJ hl => apYield hcl (n - 1 - 1) w fn _ w.heap.size (W0.heap.size + 1) W0.heap.size (by omega) (by omega) (by omega) (Nat.le_refl _) (by omega) N hN hNb pre x W hJ hl) hM).mono ?_
    rintro e W2 ⟨⟨v0, rfl⟩, ss, hS, h2⟩
    obtain ⟨v, hv, hrow⟩ := h2.box
    have hend := run_endLoop (P := Try.prog) h2.L (by simp [apRec])
    obtain ⟨W3, hW3⟩ : ∃ W3, W2.putObj (W0.heap.size + 1) (.loop { apRec A Bo fn (.func (.func g) #[] lb) w.heap.size W0.heap.size .ready none with state := .exhausted }) = W3 := ⟨_, rfl⟩
    rw [hW3] at hend
    have hg3 : W2.grownBy W3 (some (W0.heap.size + 1)) := by rw [← hW3]; exact grownBy_putObj_a _ _ _
    have hv3 : W3.heap[w.heap.size]? = some (.cells #[v] tyS (0, 0)) := by rw [← hW3]; exact (World.putObj_heap_other (by omega)).trans hv
    have hK3 : W3.heap[W0.heap.size]? = some (.deferred (some [])) := by rw [← hW3]; exact (World.putObj_heap_other (by omega)).trans h2.K
    have hrow3 := hrow.kept hg3 (ownsRow_ne_a hrow h2.L (fun cur e => by cases e))
    have hdr3 : w.drawn ≤ W3.drawn := by rw [← hW3]; exact h2.dr
    have hb3 : Below w.heap.size w W3 := h2.below.grown hg3 h2.below.size (fun k e => by cases e; omega)
    obtain ⟨hc3, hf3⟩ := cell_of_box_a hv3
    clear hW3
    refine ⟨none, W3, hend, ?_⟩
    gi_wp2
    rw [← hs0]
    refine ⟨by simp, .inl ⟨_, _, rfl, run_takeDeferred hK3, ?_⟩⟩
    exact ⟨_, results_tmp rfl _ _ _, v, ss, rfl, hS, hrow3.kept (grownBy_putObj_a _ _ _) (ownsRow_ne_a hrow3 hK3 (fun cur e => by cases e)), hb3.grown (grownBy_putObj_a _ _ _) hb3.size (fun k e => by cases e; omega), hdr3⟩
end Go.Proofs.Ytdhpjpidcbplbaa

/- Layer 17: slices.AppendSeq over a map's keys, as a contract. -/
namespace Go.Proofs.Ytdhpjpidcbplbaa
set_option maxRecDepth 100000
open Go Go.RowKit Go.MapKept Go.Sort Go.Proofs.Ytdhpjpidcbplbaa.Eng
section
variable {ρ : Type}
theorem get_arg {α : Type} {A : Sh α} {k : α → SigP ρ} {l : AV} {hp : List AO} {r : ρ} (h : (SigP.arg A k).get l hp = some r) : ∃ x l' a, l = .cons x l' ∧ A.get x = some a ∧ (k a).get l' hp = some r := by
  cases l with
  | cons x l' =>
    simp only [SigP.get] at h
    split at h
    · rename_i a ha; exact ⟨x, l', a, rfl, ha, h⟩
    · cases h
  | _ => simp [SigP.get] at h
theorem get_obj {α : Type} {A : ShO α} {k : α → SigP ρ} {l : AV} {hp : List AO} {r : ρ} (h : (SigP.obj A k).get l hp = some r) : ∃ o hp' a, hp = o :: hp' ∧ o = A.put a ∧ (k a).get l hp' = some r := by
  cases hp with
  | cons o hp' =>
    simp only [SigP.get] at h
    split at h
    · rename_i a ha; exact ⟨o, hp', a, rfl, A.ok _ _ ha, h⟩
    · cases h
  | nil => simp [SigP.get] at h
theorem get_done {q : ρ} {l : AV} {hp : List AO} {r : ρ} (h : (SigP.done q).get l hp = some r) : l = .nil ∧ hp = [] ∧ r = q := by
  cases l <;> cases hp <;> simp [SigP.get] at h
  exact ⟨rfl, rfl, h.symm⟩
end
def gNil : AV → Option Unit
  | .v (.slice none n m) => bif Nat.beq n 0 && Nat.beq m 0 then some () else none
  | _ => none
def shNil : Sh Unit := .mk' gNil (fun _ => .v (.slice none 0 0)) (fun v x h => by
  unfold gNil at h
  split at h
  · rename_i n m
    cases hb : (Nat.beq n 0 && Nat.beq m 0) with
    | false => rw [hb] at h; cases h
    | true =>
      simp only [Bool.and_eq_true] at hb
      rw [Nat.eq_of_beq_eq_true hb.1, Nat.eq_of_beq_eq_true hb.2]
  · cases h)
def gFn1 (f : FuncId) (i o : Nat) : AV → Option Unit
  | .fn g (.cons (.ptr j p) .nil) => bif Nat.beq f g && (Nat.beq i j && Nat.beq o p) then some () else none
  | _ => none
def shFn1 (f : FuncId) (i o : Nat) : Sh Unit := .mk' (gFn1 f i o) (fun _ => .fn f (.cons (.ptr i o) .nil)) (fun v x h => by
  unfold gFn1 at h
  split at h
  · rename_i g j p
    cases hb : (Nat.beq f g && (Nat.beq i j && Nat.beq o p)) with
    | false => rw [hb] at h; cases h
    | true =>
      simp only [Bool.and_eq_true] at hb
      rw [Nat.eq_of_beq_eq_true hb.1, Nat.eq_of_beq_eq_true hb.2.1, Nat.eq_of_beq_eq_true hb.2.2]
  · cases h)
def keysP (m : QM) (d : List Nat) : List Rw := d.map fun i => (m.getD i ((0, 0, 0, ()), ([], ()))).1
def k_seq : SigD := .arg shNil fun _ => .arg (shFn1 fK1 0 0) fun _ => .obj (shCM 1) fun _ => .obj shM fun m =>
  .done { pre := m.length ≤ 1000000000, d0 := List.range m.length, ok := fun d => d.Perm (List.range m.length), out := fun d => { pre := True, res := .ow 2 3 m.length, lent := [aoC, aoM m], new := [.row true tQ tyE (keysP m d)] } }
theorem permK_of {α : Type} (z : α) {l m : List α} (h : l.Perm m) : ∃ d : List Nat, d.Perm (List.range m.length) ∧ l = d.map fun i => m.getD i z := by
  induction h with
  | nil => exact ⟨[], .nil, rfl⟩
  | @cons x l m hp ih =>
    obtain ⟨d, h1, h2⟩ := ih
    refine ⟨0 :: d.map (· + 1), ?_, ?_⟩
    · rw [List.length_cons, List.range_succ_eq_map]
      exact (h1.map _).cons _
    · rw [List.map_cons, List.map_map, h2]
      simp [Function.comp_def]
  | swap x y l =>
    refine ⟨1 :: 0 :: (List.range l.length).map (· + 2), ?_, ?_⟩
    · rw [List.length_cons, List.length_cons, List.range_succ_eq_map, List.range_succ_eq_map]
      simp only [List.map_cons, List.map_map]
      exact List.Perm.swap _ _ _
    · rw [List.map_cons, List.map_cons, List.map_map]
      congr 2
      apply List.ext_getElem?
      intro j
      by_cases hj : j < l.length
      · rw [List.getElem?_map, List.getElem?_range hj, List.getElem?_eq_getElem hj]
        simp [Function.comp, List.getD_eq_getElem?_getD, List.getElem?_eq_getElem hj]
      · rw [List.getElem?_eq_none (by omega), List.getElem?_eq_none (by simp; omega)]
  | @trans l m k h1 h2 ih1 ih2 =>
    obtain ⟨d, p1, p2⟩ := ih1
    obtain ⟨e, q1, q2⟩ := ih2
    have hd : ∀ i ∈ d, i < m.length := fun i hi => by have := p1.subset hi; simpa using this
    have hel : e.length = m.length := by have := congrArg List.length q2; simpa using this.symm
    refine ⟨d.map fun i => e.getD i 0, ?_, ?_⟩
    · have h3 : ((List.range m.length).map fun i => e.getD i 0) = e := by
        apply List.ext_getElem?
        intro j
        by_cases hj : j < m.length
        · rw [List.getElem?_map, List.getElem?_range hj, List.getElem?_eq_getElem (by omega)]
          simp [List.getD_eq_getElem?_getD, List.getElem?_eq_getElem (show j < e.length by omega)]
        · rw [List.getElem?_eq_none (l := e) (by omega), List.getElem?_eq_none (by simp; omega)]
      have h4 := p1.map fun i => e.getD i 0
      rw [h3] at h4
      exact h4.trans q1
    · rw [p2, List.map_map]
      refine List.map_congr_left fun i hi => ?_
      have hi := hd i hi
      have : m[i]? = (e.map fun i => k.getD i z)[i]? := by rw [← q2]
      simp only [Function.comp, List.getD_eq_getElem?_getD]
      rw [this, List.getElem?_map, List.getElem?_eq_getElem (show i < e.length by omega)]
      simp [List.getD_eq_getElem?_getD]
theorem valE_inj {x y : Rw} (h : valE true tQ x = valE true tQ y) : x = y := by
  obtain ⟨a, b, c, _⟩ := x
  obtain ⟨a', b', c', _⟩ := y
  simp [valE, cellsE] at h
  obtain ⟨rfl, rfl, rfl⟩ := h
  rfl
theorem perm_valE {l m : List Rw} (h : (l.map (valE true tQ)).Perm (m.map (valE true tQ))) : l.Perm m := by
  have hinj : Function.Injective (valE true tQ) := fun x y => valE_inj
  obtain ⟨d, h1, h2⟩ := permK_of (valE true tQ (0, 0, 0, ())) h
  have : l = d.map fun i => m.getD i (0, 0, 0, ()) := by
    have hm : (d.map fun i => (m.map (valE true tQ)).getD i (valE true tQ (0, 0, 0, ()))) = (d.map fun i => m.getD i (0, 0, 0, ())).map (valE true tQ) := by
      rw [List.map_map]
      refine List.map_congr_left fun i _ => ?_
      simp only [List.getD_eq_getElem?_getD, List.getElem?_map, Function.comp]
      cases m[i]? <;> rfl
    rw [hm] at h2
    exact (List.map_inj_right (f := valE true tQ) (fun x y h => valE_inj h)).1 h2
  rw [this]
  have h3 := h1.map fun i => m.getD i (0, 0, 0, ())
  have h4 : ((List.range (m.map (valE true tQ)).length).map fun i => m.getD i (0, 0, 0, ())) = m := by
    apply List.ext_getElem?
    intro j
    rw [List.length_map]
    by_cases hj : j < m.length
    · rw [List.getElem?_map, List.getElem?_range hj, List.getElem?_eq_getElem hj]
      simp [List.getD_eq_getElem?_getD, List.getElem?_eq_getElem hj]
    · rw [List.getElem?_eq_none (by simp; omega), List.getElem?_eq_none (by omega)]
  rw [h4] at h3
  exact h3
theorem flat_drop {t : Ty} : ∀ (ss : List (El t)) (j : Nat) (y : El t), ss[j]? = some y → ((ss.flatMap (cellsE t)).drop (j * tsz t)).take (tsz t) = cellsE t y
  | [], j, y, h => by simp at h
  | x :: ss, 0, y, h => by
    have : x = y := by simpa using h
    subst this
    have hl := cellsE_len t x
    rw [List.flatMap_cons, Nat.zero_mul, List.drop_zero, ← hl, List.take_left]
  | x :: ss, j + 1, y, h => by
    have hl := cellsE_len t x
    rw [List.flatMap_cons, Nat.add_mul, Nat.one_mul, Nat.add_comm, ← List.drop_drop]
    have : (cellsE t x ++ ss.flatMap (cellsE t)).drop (tsz t) = ss.flatMap (cellsE t) := by rw [← hl, List.drop_left]
    rw [this]
    exact flat_drop ss j y (by simpa using h)
theorem new_row {c : Cx} {hp : List AO} (hob : Obs c hp) {w' : World} {v : Value} {t : Ty} {e : TypeId} {ss : List (El t)} (hbel : Below c.w.heap.size c.w w') (hdr : c.w.drawn ≤ w'.drawn) (hrow : w'.ownsRow c.w.heap.size e (tsz t) v ss.length (ss.flatMap (cellsE t))) (hf : flatTy t = true) (h0 : 0 < tsz t) :
    ∃ c', c'.w = w' ∧ Ext c c' ∧ Obs c' (hp ++ [.row true t e ss]) ∧ sat (.ow c.n (tsz t) ss.length) c' [v] := by
  have hcl : (ss.flatMap (cellsE t)).length = ss.length * tsz t := hrow.1
  have hmem : ∀ (c' : Cx) (b : Nat) (j : Nat) (y : El t), ss[j]? = some y → memE c'.w c'.O b t y (((ss.flatMap (cellsE t)).drop (j * tsz t)).take (tsz t)) := fun c' b j y hj => by
    rw [flat_drop ss j y hj]; exact flat_mem t y hf
  have main : ∃ (K : Nat → Prop) (hv : At0 v), (∀ g, K g → g < w'.heap.size ∧ c.w.heap.size ≤ g) ∧ Eng.rowAt (c.add w' c.n K none v ss.length (c.n + 1) hv) c.n true t e ss ∧ ∃ A m, v = .slice A ss.length m ∧ ss.length ≤ m := by
    rcases hrow.2 with ⟨rfl, hz⟩ | ⟨g, cap, cur, rfl, hbase, hgb, r1, r2, r3, r4⟩
    · have hss : ss = [] := List.eq_nil_of_length_eq_zero hz
      subst hss
      refine ⟨noK, at0_nil none 0, fun g hg => hg.elim, ⟨h0, (updF_at _ _ _).symm, fun _ g hg => ?_, [], by simp, .inl ⟨rfl, none, updF_at _ _ _, fun b hb => ?_⟩, fun j y hj => by simp at hj⟩, none, 0, rfl, Nat.le_refl _⟩
      · rw [add_key] at hg; exact hg.elim
      · rw [add_key] at hb; exact hb
    · have hgl : g < w'.heap.size := (Array.getElem?_eq_some_iff.1 hgb).1
      refine ⟨(· = g), at0_slice g _ _, fun g' hg' => by have hg' : g' = g := hg'; subst hg'; exact ⟨hgl, hbase⟩, ⟨h0, (updF_at _ _ _).symm, fun _ g' hg' => ?_, _, hcl, .inr ⟨g, cap, cur, updF_at _ _ _, fun b => by rw [add_key], .of hgb, r1, r2, r3, r4⟩, fun j y hj => hmem _ _ j y hj⟩, _, _, rfl, r1⟩
      rw [add_key] at hg'
      have hg' : g' = g := hg'
      subst hg'
      exact Nat.le_trans hob.bz hbase
  obtain ⟨K, hv, hK, hra, A, m, hvA, hAm⟩ := main
  have hnc := hob.nc
  have hne : ∀ i, i < c.n → i ≠ c.n := fun i hi => by omega
  have hold : ∀ b, b < c.w.heap.size → w'.heap[b]? = c.w.heap[b]? := fun b hb => hbel.block b hb
  have hKk : (c.add w' c.n K none v ss.length (c.n + 1) hv).key c.n = K := updF_at _ _ _
  have hkk : ∀ i, i < c.n → (c.add w' c.n K none v ss.length (c.n + 1) hv).key i = c.key i := fun i hi => updF_ne _ _ (hne i hi)
  have st : Step c (c.add w' c.n K none v ss.length (c.n + 1) hv) := by
    refine ⟨Nat.le_succ _, fun i b hi hl => (updF_ne _ _ (hne i hi)).trans hl, fun i hi _ => ⟨updF_ne _ _ (hne i hi), updF_ne _ _ (hne i hi)⟩, fun b hO hlt h' => ?_, hbel.size, fun b hO hlt => hold b hlt, Nat.le_refl _⟩
    rcases h' with h' | h'
    · exact hO h'
    · have := (hK b h').2; omega
  refine ⟨c.add w' c.n K none v ss.length (c.n + 1) hv, rfl, ⟨hbel.os, hbel.tape, hbel.output, hbel.size, Nat.le_succ _, fun i b hi hl => (updF_ne _ _ (hne i hi)).trans hl, fun i hi _ => ⟨updF_ne _ _ (hne i hi), updF_ne _ _ (hne i hi)⟩, rfl, fun b hb _ => hold b hb, fun b hb h' => ?_, fun b hO _ => .inl hO, fun i b hi hk hb => ?_, hdr⟩, ⟨?_, fun i o ho => ?_, fun i j b hi hj h1 h2 => ?_, fun i b hi hk => ?_, fun b hO => ?_, Nat.le_trans hob.bz hbel.size⟩, ⟨Nat.lt_succ_self _, (updF_at _ _ _).symm, congrArg (fun z => [z]) (updF_at _ _ _).symm, A, m, (updF_at _ _ _).trans hvA, hAm⟩⟩
  · rcases h' with h' | h'
    · exact h'
    · have := (hK b h').2; omega
  · by_cases hin : i = c.n
    · subst hin
      rw [hKk] at hk
      have := (hK b hk).2; omega
    · have hi' : i < c.n := by have hi : i < c.n + 1 := hi; omega
      rw [hkk i hi'] at hk
      exact ⟨i, hi', hk⟩
  · show c.n + 1 = _; rw [List.length_append, hnc]; rfl
  · by_cases hin : i = c.n
    · subst hin
      have : o = .row true t e ss := by rw [hnc] at ho; simpa using ho.symm
      subst this
      exact hra
    · have hlt := (List.getElem?_eq_some_iff.1 ho).1
      rw [List.length_append] at hlt
      have hlt : i < hp.length + 1 := hlt
      have hi' : i < c.n := by omega
      rw [List.getElem?_append_left (by omega)] at ho
      exact osat_keep st hi' (hkk i hi') (fun e => (updF_ne _ _ hin).trans e) ⟨updF_ne _ _ hin, updF_ne _ _ hin⟩ (fun b hkb => hold b (hob.kb i b hi' hkb).2) (hob.o i o ho)
  · have hi : i < c.n + 1 := hi
    have hj : j < c.n + 1 := hj
    by_cases hin : i = c.n <;> by_cases hjn : j = c.n
    · omega
    · subst hin
      rw [hKk] at h1
      rw [hkk j (by omega)] at h2
      have := (hK b h1).2; have := (hob.kb j b (by omega) h2).2; omega
    · subst hjn
      rw [hKk] at h2
      rw [hkk i (by omega)] at h1
      have := (hK b h2).2; have := (hob.kb i b (by omega) h1).2; omega
    · rw [hkk i (by omega)] at h1
      rw [hkk j (by omega)] at h2
      exact hob.dj i j b (by omega) (by omega) h1 h2
  · have hi : i < c.n + 1 := hi
    by_cases hin : i = c.n
    · subst hin
      rw [hKk] at hk
      exact ⟨.inr hk, (hK b hk).1⟩
    · rw [hkk i (by omega)] at hk
      have := hob.kb i b (by omega) hk
      exact ⟨.inl this.1, Nat.lt_of_lt_of_le this.2 hbel.size⟩
  · rcases hO with hO | hO
    · exact Nat.lt_of_lt_of_le (hob.ol b hO) hbel.size
    · exact (hK b hO).1
theorem c_seq : FnOkD Try.prog 45 k_seq.conD := by
  intro l hp r hk hpre c args hs hob
  obtain ⟨x1, l1, _, rfl, hx1, hk⟩ := get_arg (show k_seq.get l hp = some r from hk)
  obtain ⟨x2, l2, _, rfl, hx2, hk⟩ := get_arg hk
  obtain ⟨o1, hp1, _, rfl, ho1, hk⟩ := get_obj hk
  obtain ⟨o2, hp2, m, rfl, ho2, hk⟩ := get_obj hk
  obtain ⟨rfl, rfl, rfl⟩ := get_done hk
  have hlen : m.length ≤ 1000000000 := hpre
  obtain ⟨v1, r1, e1, s1, hs⟩ := hs
  obtain ⟨v2, r2, e2, s2, hs⟩ := hs
  have hr2 : r2 = [] := hs
  subst e2 hr2
  have hv1 : v1 = .slice none 0 0 := by
    have h : sat (.v (.slice none 0 0)) c [v1] := shNil.ok _ _ hx1 _ _ s1
    simpa [sat] using h
  have s2 : sat (.fn fK1 (.cons (.ptr 0 0) .nil)) c [v2] := (shFn1 fK1 0 0).ok _ _ hx2 _ _ s2
  obtain ⟨cs, ev2, pv, rest, ep, ⟨h0n, b0, hb0, epv⟩, hrest⟩ := s2
  have hrest : rest = [] := hrest
  subst hrest
  have epv : pv = .pointer (some ⟨b0, 0, none⟩) := by simpa using epv
  subst epv hv1
  have hcs : cs = #[.pointer (some ⟨b0, 0, none⟩)] := by rw [← Array.toList_inj, ep]
  subst hcs
  have ev2 : v2 = .func (.func fK1) #[] #[.pointer (some ⟨b0, 0, none⟩)] := by simpa using ev2
  subst ev2
  have hargs : args = #[.slice none 0 0, .func (.func fK1) #[] #[.pointer (some ⟨b0, 0, none⟩)]] := by rw [← Array.toList_inj, e1]
  subst hargs
  have ho1 : o1 = aoC := ho1
  have ho2 : o2 = aoM m := ho2
  subst ho1 ho2
  obtain ⟨b0', cs0, ty0, hl0, hkey0, hh0, hs0⟩ := (hob.o 0 _ rfl : osat aoC c 0)
  have : b0' = b0 := by rw [hb0] at hl0; injection hl0 with hl0; exact hl0.symm
  subst this
  obtain ⟨x0, r0, e0, ⟨_, ⟨bm, hbm⟩, ex0⟩, _⟩ := hs0
  have ex0 : x0 = .map (some bm) := by rw [← hbm]; simpa using ex0
  subst ex0
  obtain ⟨b, es, ck, hv, hb, hst, hen, _⟩ := (hob.o 1 _ rfl : mapAt c 1 true false tQ (.el tBs) none none m)
  have : b = bm := by rw [hbm] at hv; injection hv with hv; injection hv with hv; exact hv.symm
  subst this
  have hm : c.w.cell? ⟨b0', 0, none⟩ = some (.map (some b)) := by
    have : cs0[0]? = some (.map (some b)) := by rw [← Array.getElem?_toList, e0]; rfl
    rw [(rowHeap.of hh0).cell, this]
  have hkx : ∀ e ∈ es.toList, ∃ x : Rw, e.key = valE true tQ x := fun e he => by
    obtain ⟨p, _, hp, _⟩ := entR_mem hen he
    exact ⟨_, hp⟩
  have hsz : es.size = m.length := by have := entR_len hen; simpa using this
  have hgive := keys1_gives 5 (by decide) b0' b es ck c.w hm hb hst hkx
  have hcall := appendSeq_in 6 (by decide) fK1 #[.pointer (some ⟨b0', 0, none⟩)] (fun args w => rfl) _ es.size (by rw [hsz]; unfold maxLen; omega) (by omega) c.w hgive
  refine ⟨⟨_, Try.func45, by kernel_rfl, by decide +kernel⟩, ?_⟩
  refine (callsIn_wide.1 hcall).mono fun e w' he => ?_
  obtain ⟨v, ss, rfl, hS, hrow, hbel, hdr⟩ := he
  have hkm : es.toList.map (·.key) = (m.map (·.1)).map (valE true tQ) := by
    rw [List.map_map]
    apply List.ext_getElem?
    intro j
    rw [List.getElem?_map, List.getElem?_map]
    cases hj : es.toList[j]? with
    | none =>
      have : m[j]? = none := by
        have := List.getElem?_eq_none_iff.1 hj
        exact List.getElem?_eq_none (by rw [← entR_len hen]; exact this)
      rw [this]; rfl
    | some e =>
      obtain ⟨p, hp, hk, _⟩ := entR_at hen j e hj
      rw [hp]
      simp only [Option.map_some, Function.comp]
      rw [hk]
  rw [hkm] at hS
  obtain ⟨d, hd1, hd2⟩ := permK_of ((0, 0, 0, ()) : Rw) (perm_valE hS)
  rw [List.length_map] at hd1
  have hss : ss = keysP m d := by
    rw [hd2]
    refine List.map_congr_left fun i _ => ?_
    simp only [List.getD_eq_getElem?_getD, List.getElem?_map]
    cases m[i]? <;> rfl
  have hsl : ss.length = m.length := by rw [hss]; unfold keysP; rw [List.length_map]; have := hd1.length_eq; simpa using this
  obtain ⟨c', h1, h2, h3, h4⟩ := new_row hob (t := tQ) hbel hdr hrow rfl (by decide)
  have hn2 : c.n = 2 := by simpa using hob.nc
  refine ⟨d, v, c', hd1, rfl, h1, h2, ?_, rfl, ?_⟩
  · dsimp only; rw [← hss]; exact h3
  · rw [hn2, hsl] at h4; exact h4
end Go.Proofs.Ytdhpjpidcbplbaa

/- The sort, laid at the seat's program. -/
namespace Go.Proofs.Ytdhpjpidcbplbaa
open Go Go.Shelf Go.RowKit Go.Proofs
shelf_lay_g SlLaysF0.n6 Slsf 6 at Try 41 as sortLay
end Go.Proofs.Ytdhpjpidcbplbaa

/- ENGINE 2, 17: slices.SortFunc at elements without slices, as a contract (out of the kit's own law on it). -/
namespace Go.Proofs.Ytdhpjpidcbplbaa.Eng
open Go Go.RowKit Go.Sort Go.Shelf Go.Proofs
def valsE : (t : Ty) → El t → List Value
  | .nil, _ => []
  | .int k r, x => .int k x.1 :: valsE r x.2
  | .bool r, x => .bool x.1 :: valsE r x.2
  | .str r, x => .string x.1 :: valsE r x.2
  | .sl _ r, x => .slice none 0 0 :: valsE r x.2
theorem valsE_len : ∀ (t : Ty) (x : El t), (valsE t x).length = tsz t
  | .nil, _ => rfl
  | .int k r, x => congrArg (· + 1) (valsE_len r x.2)
  | .bool r, x => congrArg (· + 1) (valsE_len r x.2)
  | .str r, x => congrArg (· + 1) (valsE_len r x.2)
  | .sl _ r, x => congrArg (· + 1) (valsE_len r x.2)
theorem valsE_one : ∀ (t : Ty) (x : El t), ∀ v ∈ valsE t x, v.oneCell' = true
  | .nil, _, v, hv => by cases hv
  | .int k r, x, v, hv => by
    rcases List.mem_cons.1 hv with rfl | hv
    · rfl
    · exact valsE_one r x.2 v hv
  | .bool r, x, v, hv => by
    rcases List.mem_cons.1 hv with rfl | hv
    · rfl
    · exact valsE_one r x.2 v hv
  | .str r, x, v, hv => by
    rcases List.mem_cons.1 hv with rfl | hv
    · rfl
    · exact valsE_one r x.2 v hv
  | .sl _ r, x, v, hv => by
    rcases List.mem_cons.1 hv with rfl | hv
    · rfl
    · exact valsE_one r x.2 v hv
theorem memE_vals {w : World} {O : Nat → Prop} {b : Nat} : ∀ (t : Ty), flatTy t = true → ∀ (x : El t) (vs : List Value), memE w O b t x vs ↔ vs = valsE t x
  | .nil, _, _, _ => Iff.rfl
  | .int k r, h, x, vs => by
    constructor
    · rintro ⟨vs', rfl, h'⟩; rw [(memE_vals r h x.2 vs').1 h']; rfl
    · rintro rfl; exact ⟨_, rfl, (memE_vals r h x.2 _).2 rfl⟩
  | .bool r, h, x, vs => by
    constructor
    · rintro ⟨vs', rfl, h'⟩; rw [(memE_vals r h x.2 vs').1 h']; rfl
    · rintro rfl; exact ⟨_, rfl, (memE_vals r h x.2 _).2 rfl⟩
  | .str r, h, x, vs => by
    constructor
    · rintro ⟨vs', rfl, h'⟩; rw [(memE_vals r h x.2 vs').1 h']; rfl
    · rintro rfl; exact ⟨_, rfl, (memE_vals r h x.2 _).2 rfl⟩
  | .sl _ _, h, _, _ => by cases h
theorem con_arg {α : Type} {A : Sh α} {k : α → Sig} {l : AV} {hp : List AO} {r : CR} (h : (SigP.arg A k).con l hp = some r) : ∃ x l' a, l = .cons x l' ∧ A.get x = some a ∧ (k a).con l' hp = some r := by
  cases l with
  | cons x l' =>
    simp only [SigP.con, SigP.get] at h
    split at h
    · rename_i a ha; exact ⟨x, l', a, rfl, ha, h⟩
    · cases h
  | _ => simp [SigP.con, SigP.get] at h
theorem con_obj {α : Type} {A : ShO α} {k : α → Sig} {l : AV} {hp : List AO} {r : CR} (h : (SigP.obj A k).con l hp = some r) : ∃ o hp' a, hp = o :: hp' ∧ o = A.put a ∧ (k a).con l hp' = some r := by
  cases hp with
  | cons o hp' =>
    simp only [SigP.con, SigP.get] at h
    split at h
    · rename_i a ha; exact ⟨o, hp', a, rfl, A.ok _ _ ha, h⟩
    · cases h
  | nil => simp [SigP.con, SigP.get] at h
theorem con_done {q : CR} {l : AV} {hp : List AO} {r : CR} (h : (SigP.done q).con l hp = some r) : l = .nil ∧ hp = [] ∧ r = q := by
  cases l <;> cases hp <;> simp [SigP.con, SigP.get] at h
  exact ⟨rfl, rfl, h.symm⟩
section
variable {t : Ty} [Inhabited (El t)] {w : World} {g n : Nat} {d : Array (El t)} {os : Array Obj}
theorem sortW_at {cur : Array Value} {e : TypeId} {mk : Nat × Nat} (h : w.heap[g]? = some (.cells cur e mk)) :
    (sortWorldK (valsE t) (tsz t) w g 0 n d os).heap[g]? = some (.cells (putCells id 0 (flatK (valsE t) (tsz t) d) cur) e mk) := by
  have hg : g < w.heap.size := (Array.getElem?_eq_some_iff.1 h).1
  simp only [sortWorldK, Go.Sort.grow, putRowK, putRow, mapBlock, Go.Sort.ahead]
  rw [Array.getElem?_append_left (by simpa using hg), Array.getElem?_modify, if_pos rfl, h]
  rfl
theorem sortW_other {b : Nat} (hb : b < w.heap.size) (hne : b ≠ g) : (sortWorldK (valsE t) (tsz t) w g 0 n d os).heap[b]? = w.heap[b]? := by
  simp only [sortWorldK, Go.Sort.grow, putRowK, putRow, mapBlock, Go.Sort.ahead]
  rw [Array.getElem?_append_left (by simpa using hb), Array.getElem?_modify, if_neg (fun e => hne e.symm)]
theorem sortW_size : w.heap.size ≤ (sortWorldK (valsE t) (tsz t) w g 0 n d os).heap.size := by
  simp only [sortWorldK, Go.Sort.grow, putRowK, putRow, mapBlock, Go.Sort.ahead]
  simp
end
theorem grown_of {W w' : World} (h : BelowD W.heap.size W w') : ∃ q os', w' = Go.Sort.grow (W.drewN q) os' := by
  refine ⟨w'.drawn - W.drawn, (w'.heap.toList.drop W.heap.size).toArray, ?_⟩
  have hh : w'.heap = W.heap ++ (w'.heap.toList.drop W.heap.size).toArray := by
    apply Array.ext_getElem?
    intro k
    by_cases hk : k < W.heap.size
    · rw [h.block k hk, Array.getElem?_append_left hk]
    · rw [Array.getElem?_append_right (by omega)]
      simp only [List.getElem?_toArray, List.getElem?_drop, Array.getElem?_toList]
      congr 1; omega
  have hd : w'.drawn = W.drawn + (w'.drawn - W.drawn) := by have := h.dr; omega
  have h1 := h.tape
  have h2 := h.os
  have h3 := h.output
  cases w'
  cases W
  simp only [Go.Sort.grow, World.drewN, World.mk.injEq]
  exact ⟨hh, h1, hd, h2, h3⟩
theorem dec_enc {α : Type} {no : α} {q : Bool} : ∀ (t : Ty), flatTy t = true → ∀ (x : El t) (K : Bool → El t → α), (∀ b b' y, K b y = K b' y) → decK t (encC q t x) no K = K true x
  | .nil, _, _, _, _ => rfl
  | .int k r, h, x, K, hK => by
    simp only [encC, decK, if_true]
    exact dec_enc r h x.2 _ fun b b' y => hK b b' _
  | .bool r, h, x, K, hK => by
    simp only [encC, decK]
    exact dec_enc r h x.2 _ fun b b' y => hK b b' _
  | .str r, h, x, K, hK => by
    simp only [encC, decK]
    exact dec_enc r h x.2 _ fun b b' y => hK b b' _
  | .sl _ _, h, _, _, _ => by cases h
def cmpSig (t : Ty) (cf : El t → El t → Int) : Sig := .arg (shT t) fun x => .arg (shT t) fun y => .done { pre := True, res := I (cf x y) }
def sortSig (t : Ty) (e : TypeId) (g : FuncId) (f : List (El t) → List (El t)) : Sig := .arg (shOw 0 (tsz t)) fun _ => .arg (shF g) fun _ => .obj (shRow t e) fun l => .done { pre := l.2.length < 4611686018427387904, res := .tup .nil, lent := [.row l.1 t e (f l.2)] }
theorem cmp_lays {P : Program} {t : Ty} (ht : flatTy t = true) {g : FuncId} {cf : El t → El t → Int} (hg : FnOk P g (cmpSig t cf).con) [Inhabited (El t)] (blk off size : Nat) (w : World) : CmpLays P g #[] (valsE t) (tsz t) cf blk off size w := by
  intro m os dk _ x y
  generalize sortWorldK (valsE t) (tsz t) w blk off m dk os = W
  have hget : ∀ z : El t, (shT t).get (.agg (encC false t z)) = some z := fun z => dec_enc t ht z _ fun _ _ _ => rfl
  have hk : (cmpSig t cf).con (.cons (.agg (encC false t x)) (.cons (.agg (encC false t y)) .nil)) [] = some { pre := True, res := I (cf x y) } := by
    simp only [cmpSig, SigP.con, SigP.get, hget]
  have hsat : ∀ z : El t, sat (.agg (encC false t z)) (cx0 W) [.agg (valsE t z).toArray] := fun z => ⟨_, rfl, encC_ok t z _ ((memE_vals t ht z _).2 (by simp))⟩
  refine ((hg _ [] _ hk trivial (cx0 W) #[.agg (valsE t x).toArray, .agg (valsE t y).toArray] ⟨_, _, rfl, hsat x, ⟨_, _, rfl, hsat y, rfl⟩⟩ (obs_none rfl (fun b hb => hb.elim) (Nat.zero_le _))).2).mono fun e w' he => ?_
  obtain ⟨v, c', rfl, rfl, hx, _, _, hres⟩ := he
  have : v = .int .i64 (cf x y) := by simpa [sat] using hres
  rw [this]
  exact ⟨rfl, grown_of (ext_below hx rfl)⟩
theorem holds_row {c : Cx} {g : Nat} {cur : Array Value} {e : TypeId} {t : Ty} [Inhabited (El t)] {l : List (El t)} (hr : rowHeap c.w g cur e) (hsz : l.length * tsz t ≤ cur.size) (hx : ∀ j y, l[j]? = some y → ((cur.toList.take (l.length * tsz t)).drop (j * tsz t)).take (tsz t) = valsE t y) (h0 : 0 < tsz t) :
    HoldsK (valsE t) (tsz t) c.w g 0 l.toArray := by
  intro j hj
  have hj' : j < l.length * tsz t := by simpa using hj
  have hq : j / tsz t < l.length := Nat.div_lt_of_lt_mul (by rw [Nat.mul_comm]; exact hj')
  have hmod : j % tsz t < tsz t := Nat.mod_lt _ h0
  have hdm : j / tsz t * tsz t + j % tsz t = j := Nat.div_add_mod' j _
  rw [Nat.zero_add]
  refine ⟨?_, hr.shut (by omega)⟩
  rw [hr.cell, get_flatK _ _ _ _ (by simpa using hj')]
  have h1 := congrArg (fun z : List Value => z[j % tsz t]?) (hx _ _ (List.getElem?_eq_getElem hq))
  simp only [List.getElem?_take, if_pos hmod, List.getElem?_drop, hdm, if_pos hj', Array.getElem?_toList] at h1
  rw [h1, List.getElem?_eq_getElem (by rw [valsE_len]; exact hmod)]
  simp only [id]
  congr 1
  rw [getElem!_pos l.toArray _ (by simpa using hq), getElem!_pos _ _ (by rw [valsE_len]; exact hmod)]
  rfl
theorem fnOk_sort {P : Program} {ρ : Ren} (L : SlLaysF0.n6 P ρ) {t : Ty} (ht : flatTy t = true) (e : TypeId) (aE : ∀ w, (isAgg (ρ.t 24)).run P w = .ok true w) (zE : ∀ w, (Go.sizeOf (ρ.t 24)).run P w = .ok (tsz t) w) (g : FuncId) (cf : El t → El t → Int) (hO : SWO (ltOf cf))
    (hT : ∀ x y, ltOf cf x y = false → ltOf cf y x = false → x = y) (eg : ∀ args w, (callFunc g args).run P w = .ok (.enter g args) w) (hg : FnOk P g (cmpSig t cf).con) {s : FuncId} (hs6 : s = ρ.f 6) (hfn : ∃ fn : Func, P.funcs[s]? = some fn ∧ fn.body.isSome = true ∧ fn.name ≠ "runtime.NumGoroutine") :
    FnOk P s (sortSig t e g fun l => l.mergeSort fun x y => !(ltOf cf) y x).con := by
  haveI : Inhabited (El t) := ⟨zeroE t⟩
  intro l hp r hk hpre c args hs hob
  obtain ⟨x, l1, n, rfl, hx, hk⟩ := con_arg hk
  obtain ⟨y, l2, _, rfl, hy, hk⟩ := con_arg hk
  obtain ⟨o, hp', ⟨q, m⟩, rfl, ho, hk⟩ := con_obj hk
  obtain ⟨rfl, rfl, rfl⟩ := con_done hk
  have hlen : m.length < 4611686018427387904 := hpre
  obtain ⟨v1, r1, e1, s1, hs⟩ := hs
  obtain ⟨v2, r2, e2, s2, hs⟩ := hs
  have hr2 : r2 = [] := hs
  subst e2 hr2
  obtain ⟨hin, hn, ev1, A, mm, hA, hmm⟩ := (shOw 0 (tsz t)).ok _ _ hx _ _ s1
  obtain ⟨cs, ev2, hcs⟩ := (shF g).ok _ _ hy _ _ s2
  have hcs : cs = #[] := by
    have : cs.toList = [] := hcs
    exact Array.toList_eq_nil_iff.1 this
  subst hcs
  have e1' : v1 = c.val 0 := by simpa using ev1
  have e2' : v2 = .func (.func g) #[] #[] := by simpa using ev2
  subst e1' e2'
  have hargs : args = #[c.val 0, .func (.func g) #[] #[]] := by rw [← Array.toList_inj, e1]
  subst hargs
  have ho : o = .row q t e m := ho
  subst ho
  have hc1 : c.n = 1 := by simpa using hob.nc
  obtain ⟨h0, hml, hq, xs, hxl, hcase, hmem⟩ := (hob.o 0 _ rfl : rowAt c 0 q t e m)
  refine ⟨hfn, ?_⟩
  subst hs6
  rcases hcase with ⟨hm, A', hv, hkey⟩ | ⟨b, cap, cur, hv, hkey, hrow, hcap, hcapm, hsz, htk⟩
  · subst hm
    rw [hv]
    refine (AnyF.slices_SortFunc_none L A' 0 _ c.w).mono fun ed w' he => ?_
    obtain ⟨rfl, rfl⟩ := he
    refine ⟨_, c, rfl, rfl, ⟨rfl, rfl, rfl, Nat.le_refl _, Nat.le_refl _, fun _ _ _ h => h, fun _ _ _ => ⟨rfl, rfl⟩, rfl, fun _ _ _ => rfl, fun _ _ h => h, fun _ h _ => h, fun i b hi hk _ => ⟨i, hi, hk⟩, Nat.le_refl _⟩, ?_, rfl, ⟨_, rfl, rfl⟩⟩
    simpa using hob
  · have hvals : ∀ j y, m[j]? = some y → (xs.drop (j * tsz t)).take (tsz t) = valsE t y := fun j y hj => (memE_vals t ht y _).1 (hmem j y hj)
    have hlc : m.length * tsz t ≤ cur.size := by rw [hsz]; exact Nat.mul_le_mul_right _ hcap
    have hH := holds_row (c := c) hrow hlc (fun j y hj => by rw [htk]; exact hvals j y hj) h0
    obtain ⟨hbO, hbs⟩ := hob.kb 0 b (by omega) ((hkey b).2 rfl)
    have hsort := AnyQ.slices_SortFunc_total L (tsz t) aE zE (valsE t) (valsE_len t) (valsE_one t) cf hO g #[] b 0 cap m.toArray c.w eg (cmp_lays ht hg b 0 _ c.w) hH hbs (by simpa using hlen) hT
    rw [hv]
    have e3 : m.toArray.size = m.length := by simp
    rw [e3] at hsort
    refine hsort.mono fun ed w' he => ?_
    obtain ⟨rfl, n', os, rfl⟩ := he
    obtain ⟨mk, hb1, hmk⟩ := hrow
    generalize hsl : m.mergeSort (fun x y => !(ltOf cf) y x) = sl
    have hll : sl.length = m.length := by rw [← hsl]; simp
    have hat := sortW_at (t := t) (n := n') (d := sl.toArray) (os := os) hb1
    have hoth : ∀ k, k < c.w.heap.size → k ≠ b → (sortWorldK (valsE t) (tsz t) c.w b 0 n' sl.toArray os).heap[k]? = c.w.heap[k]? := fun k hk hne => sortW_other hk hne
    have hszw : c.w.heap.size ≤ (sortWorldK (valsE t) (tsz t) c.w b 0 n' sl.toArray os).heap.size := sortW_size
    have hw1 : (sortWorldK (valsE t) (tsz t) c.w b 0 n' sl.toArray os).os = c.w.os := rfl
    have hw2 : (sortWorldK (valsE t) (tsz t) c.w b 0 n' sl.toArray os).tape = c.w.tape := rfl
    have hw3 : (sortWorldK (valsE t) (tsz t) c.w b 0 n' sl.toArray os).output = c.w.output := rfl
    have hw4 : c.w.drawn ≤ (sortWorldK (valsE t) (tsz t) c.w b 0 n' sl.toArray os).drawn := Nat.le_add_right _ _
    generalize sortWorldK (valsE t) (tsz t) c.w b 0 n' sl.toArray os = W at hat hoth hszw hw1 hw2 hw3 hw4
    have hkn : ∀ i b', i < c.n → c.key i b' → i = 0 ∧ b' = b := fun i b' hi hk => by
      have : i = 0 := by omega
      subst this
      have hk := (hkey b').1 hk
      exact ⟨rfl, hk⟩
    refine ⟨_, c.to W, rfl, rfl, ⟨hw1, hw2, hw3, hszw, Nat.le_refl _, fun _ _ _ h => h, fun _ _ _ => ⟨rfl, rfl⟩, rfl, fun k hk hno => hoth k hk fun e => hno 0 (by omega) ((hkey k).2 e), fun _ _ h => h, fun _ h _ => h, fun i b' hi hk _ => ⟨i, hi, hk⟩, hw4⟩, ?_, rfl, ⟨_, rfl, rfl⟩⟩
    refine ⟨hc1, fun i o ho => ?_, hob.dj, fun i b' hi hk => ⟨(hob.kb i b' hi hk).1, Nat.lt_of_lt_of_le (hob.kb i b' hi hk).2 hszw⟩, fun b' h => Nat.lt_of_lt_of_le (hob.ol b' h) hszw, Nat.le_trans hob.bz hszw⟩
    have hi0 : i = 0 := by have := (List.getElem?_eq_some_iff.1 ho).1; simp at this; omega
    subst hi0
    have ho : o = .row q t e sl := by rw [← hsl]; simpa using ho.symm
    subst ho
    have hcs : (putCells id 0 (flatK (valsE t) (tsz t) sl.toArray) cur).size = cur.size := by simp [putCells]
    refine ⟨h0, hll.trans hml, hq, (putCells id 0 (flatK (valsE t) (tsz t) sl.toArray) cur).toList.take (sl.length * tsz t), ?_, .inr ⟨b, cap, _, ?_, hkey, ⟨mk, hat, by rw [hcs]; exact hmk⟩, by omega, hcapm, hcs.trans hsz, rfl⟩, fun j y hj => (memE_vals t ht y _).2 ?_⟩
    · have h5 : (putCells id 0 (flatK (valsE t) (tsz t) sl.toArray) cur).toList.length = cur.size := (Array.length_toList).trans hcs
      rw [List.length_take, h5, hll, Nat.min_eq_left hlc]
    · rw [hll]; exact hv
    · have hjl : j < sl.length := (List.getElem?_eq_some_iff.1 hj).1
      have hjb : (j + 1) * tsz t ≤ sl.length * tsz t := Nat.mul_le_mul_right _ hjl
      rw [Nat.add_mul, Nat.one_mul] at hjb
      apply List.ext_getElem?
      intro p
      rw [List.getElem?_take]
      by_cases hp : p < tsz t
      · rw [if_pos hp, List.getElem?_drop, List.getElem?_take, if_pos (by omega), Array.getElem?_toList, putCells, Array.getElem?_mapIdx]
        have hcur : j * tsz t + p < cur.size := by rw [hll] at hjb; omega
        rw [Array.getElem?_eq_getElem hcur, Option.map_some, if_pos ⟨Nat.zero_le _, by rw [size_flatK]; simp; omega⟩, Nat.sub_zero, get_flatK _ _ _ _ (by simp; omega)]
        have hd : (j * tsz t + p) / tsz t = j := by rw [Nat.mul_comm, Nat.mul_add_div h0, Nat.div_eq_of_lt hp]; rfl
        have hmm : (j * tsz t + p) % tsz t = p := by rw [Nat.mul_comm, Nat.mul_add_mod, Nat.mod_eq_of_lt hp]
        rw [hd, hmm, getElem!_pos sl.toArray j (by simpa using hjl)]
        have hy : sl[j] = y := by
          have := List.getElem?_eq_getElem hjl
          rw [this] at hj; injection hj
        rw [show sl.toArray[j]'(by simpa using hjl) = y by simpa using hy]
        rw [List.getElem?_eq_getElem (by rw [valsE_len]; exact hp)]
        simp only [id]
        congr 1
        exact getElem!_pos _ _ (by rw [valsE_len]; exact hp)
      · rw [if_neg hp, List.getElem?_eq_none (by rw [valsE_len]; omega)]
theorem drop_get' {t : Ty} (l : List (El t)) {j : Nat} (h : j < l.length) : l.drop j = getE t l j :: l.drop (j + 1) := by
  rw [List.drop_eq_getElem_cons h]
  congr 1
  unfold getE
  rw [List.getD_eq_getElem?_getD, List.getElem?_eq_getElem h]
  rfl
theorem lt_t' {j n : Nat} (h : decide ((j : Int) < (n : Int)) = true) : j < n := Int.ofNat_lt.1 (of_decide_eq_true h)
theorem lt_f' {j n : Nat} (h : decide ((j : Int) < (n : Int)) = false) : n ≤ j := Nat.le_of_not_lt fun hh => of_decide_eq_false h (Int.ofNat_lt.2 hh)
theorem wrapS' {j : Nat} (h : j < 4611686018427387904) : IntKind.i64.wrap ((j : Int) + 1) = ((j + 1 : Nat) : Int) := by
  rw [IntKind.wrap_i64]; omega
end Go.Proofs.Ytdhpjpidcbplbaa.Eng

/- Rows' names in plain Lean: their order, what is sorted. -/
namespace Go.Proofs.Ytdhpjpidcbplbaa
open Go Go.Sort Go.RowKit Go.Proofs Go.Proofs.Ytdhpjpidcbplbaa.Eng
abbrev tI' : Ty := .int .i64 .nil
def cmpI (x y : Int) : Int := if x < y then -1 else if y < x then 1 else 0
def orI : List (El tI') → Int
  | [] => 0
  | x :: r => if x.1 = 0 then orI r else x.1
def ordQ (x y : Rw) : Int := orI [(cmpI x.1 y.1, ()), (cmpI x.2.1 y.2.1, ()), (cmpI x.2.2.1 y.2.2.1, ())]
def aheadP (x y : Rw) : Prop := x.1 < y.1 ∨ x.1 = y.1 ∧ (x.2.1 < y.2.1 ∨ x.2.1 = y.2.1 ∧ x.2.2.1 < y.2.2.1)
def aheadB (x y : Rw) : Bool := decide (x.1 < y.1) || (x.1 == y.1 && (decide (x.2.1 < y.2.1) || (x.2.1 == y.2.1 && decide (x.2.2.1 < y.2.2.1))))
theorem aheadB_iff (x y : Rw) : aheadB x y = true ↔ aheadP x y := by unfold aheadB aheadP; simp
theorem ordQ_lt (x y : Rw) : ltOf ordQ x y = true ↔ aheadP x y := by
  obtain ⟨a1, a2, a3, _⟩ := x
  obtain ⟨b1, b2, b3, _⟩ := y
  have hc : ∀ u v : Int, cmpI u v = 0 ↔ u = v := fun u v => by unfold cmpI; split <;> (try split) <;> constructor <;> intro h <;> first | omega | (exfalso; revert h; decide) | rfl
  have hn : ∀ u v : Int, cmpI u v < 0 ↔ u < v := fun u v => by unfold cmpI; split <;> (try split) <;> constructor <;> intro h <;> first | omega | (exfalso; revert h; decide) | decide
  unfold ltOf ordQ aheadP
  simp only [orI, decide_eq_true_eq, hc]
  repeat' split
  all_goals (try simp only [hn])
  all_goals first | omega | (rename_i h; rw [hc] at h; omega)
theorem row_ext {x y : Rw} (h1 : x.1 = y.1) (h2 : x.2.1 = y.2.1) (h3 : x.2.2.1 = y.2.2.1) : x = y := by
  obtain ⟨a1, a2, a3, _⟩ := x
  obtain ⟨b1, b2, b3, _⟩ := y
  simp only [Prod.mk.injEq, and_true]
  exact ⟨h1, h2, h3⟩
theorem ordQ_swo : SWO (ltOf ordQ) where
  irrefl x := by
    have := ordQ_lt x x
    unfold aheadP at this
    cases h : ltOf ordQ x x with
    | false => rfl
    | true => exact absurd (this.1 h) (by omega)
  trans x y z h1 h2 := by rw [ordQ_lt] at *; unfold aheadP at *; omega
  ntrans x y z h1 h2 := by
    rw [Bool.eq_false_iff, ne_eq, ordQ_lt] at *; unfold aheadP at *; omega
theorem ordQ_parts (x y : Rw) (h1 : ltOf ordQ x y = false) (h2 : ltOf ordQ y x = false) : x = y := by
  rw [Bool.eq_false_iff, ne_eq, ordQ_lt] at h1 h2
  unfold aheadP at h1 h2
  exact row_ext (by omega) (by omega) (by omega)
def leQ (x y : Rw) : Bool := !(ltOf ordQ) y x
def srtQ (l : List Rw) : List Rw := l.mergeSort fun x y => !(ltOf ordQ) y x
theorem srtQ_len (l : List Rw) : (srtQ l).length = l.length := by unfold srtQ; simp
theorem srtQ_perm (l : List Rw) : (srtQ l).Perm l := List.mergeSort_perm _ _
theorem leQ_iff (x y : Rw) : leQ x y = true ↔ ¬ aheadP y x := by
  unfold leQ
  rw [← ordQ_lt]
  cases h : ltOf ordQ y x <;> simp
theorem srtQ_sorted (l : List Rw) : (srtQ l).Pairwise (fun x y => leQ x y = true) := by
  apply List.pairwise_mergeSort
  · intro a b c h1 h2
    have h1 := (leQ_iff a b).1 h1; have h2 := (leQ_iff b c).1 h2
    refine (leQ_iff a c).2 ?_
    unfold aheadP at *; omega
  · intro a b
    have h1 := leQ_iff a b; have h2 := leQ_iff b a
    show (leQ a b || leQ b a) = true
    rw [Bool.or_eq_true, h1, h2]; unfold aheadP; omega
theorem leQ_anti {x y : Rw} (h1 : leQ x y = true) (h2 : leQ y x = true) : x = y := by
  rw [leQ_iff] at h1 h2
  unfold aheadP at h1 h2
  exact row_ext (by omega) (by omega) (by omega)
theorem sortedQ_eq : ∀ {l m : List Rw}, l.Perm m → l.Pairwise (fun x y => leQ x y = true) → m.Pairwise (fun x y => leQ x y = true) → l = m
  | [], m, h, _, _ => h.nil_eq
  | x :: l, [], h, _, _ => absurd h.length_eq (by simp)
  | x :: l, y :: m, h, hl, hm => by
    have e : x = y := by
      have hx : x ∈ y :: m := h.subset (by simp)
      have hy : y ∈ x :: l := h.symm.subset (by simp)
      rcases List.mem_cons.1 hx with h1 | h1
      · exact h1
      · rcases List.mem_cons.1 hy with h2 | h2
        · exact h2.symm
        · exact leQ_anti ((List.pairwise_cons.1 hl).1 y h2) ((List.pairwise_cons.1 hm).1 x h1)
    subst e
    rw [sortedQ_eq (List.Perm.cons_inv h) (List.pairwise_cons.1 hl).2 (List.pairwise_cons.1 hm).2]
theorem srtQ_eq {l m : List Rw} (h : l.Perm m) : srtQ l = srtQ m :=
  sortedQ_eq ((srtQ_perm l).trans (h.trans (srtQ_perm m).symm)) (srtQ_sorted l) (srtQ_sorted m)
def insQ (x : Rw) : List Rw → List Rw
  | [] => [x]
  | y :: r => bif aheadB y x then y :: insQ x r else x :: y :: r
def isrtQ : List Rw → List Rw
  | [] => []
  | x :: r => insQ x (isrtQ r)
theorem insQ_perm (x : Rw) : ∀ l : List Rw, (insQ x l).Perm (x :: l)
  | [] => List.Perm.refl _
  | y :: r => by
    unfold insQ
    cases aheadB y x with
    | true => exact ((insQ_perm x r).cons y).trans (List.Perm.swap x y r)
    | false => exact List.Perm.refl _
theorem isrtQ_perm : ∀ l : List Rw, (isrtQ l).Perm l
  | [] => List.Perm.refl _
  | x :: r => (insQ_perm x _).trans ((isrtQ_perm r).cons x)
theorem leQ_trans {a b c : Rw} (h1 : leQ a b = true) (h2 : leQ b c = true) : leQ a c = true := by
  rw [leQ_iff] at *; unfold aheadP at *; omega
theorem insQ_sorted (x : Rw) : ∀ {l : List Rw}, l.Pairwise (fun x y => leQ x y = true) → (insQ x l).Pairwise (fun x y => leQ x y = true)
  | [], _ => List.pairwise_singleton _ _
  | y :: r, h => by
    unfold insQ
    cases hq : aheadB y x with
    | true =>
      have hq := (aheadB_iff y x).1 hq
      refine List.pairwise_cons.2 ⟨fun z hz => ?_, insQ_sorted x (List.pairwise_cons.1 h).2⟩
      rcases List.mem_cons.1 ((insQ_perm x r).subset hz) with e | e
      · rw [e, leQ_iff]; unfold aheadP at *; omega
      · exact (List.pairwise_cons.1 h).1 z e
    | false =>
      have hq : leQ x y = true := by
        rw [leQ_iff, ← aheadB_iff, hq]; simp
      refine List.pairwise_cons.2 ⟨fun z hz => ?_, h⟩
      rcases List.mem_cons.1 hz with e | e
      · rw [e]; exact hq
      · exact leQ_trans hq ((List.pairwise_cons.1 h).1 z e)
theorem isrtQ_sorted : ∀ l : List Rw, (isrtQ l).Pairwise (fun x y => leQ x y = true)
  | [] => List.Pairwise.nil
  | x :: r => insQ_sorted x (isrtQ_sorted r)
theorem isrtQ_eq (l : List Rw) : srtQ l = isrtQ l := sortedQ_eq ((srtQ_perm l).trans (isrtQ_perm l).symm) (srtQ_sorted l) (isrtQ_sorted l)
theorem isrtQ_len (l : List Rw) : (isrtQ l).length = l.length := (isrtQ_perm l).length_eq
def rowsQ (m : QM) : List Rw := isrtQ (m.map (·.1))
def lenQ (m : QM) (l : List Rw) : Nat := (l.map fun r => (getQ m r).length).sum
def eq1 (x y : Rec) : Bool := x.1 == y.1 && (x.2.1 == y.2.1 && true)
theorem eq1_iff (x y : Rec) : eq1 x y = true ↔ x = y := by
  obtain ⟨a1, a2, _⟩ := x
  obtain ⟨b1, b2, _⟩ := y
  simp [eq1]
def sameR : List Rec → List Rec → Bool
  | [], [] => true
  | x :: r, y :: s => eq1 x y && sameR r s
  | _, _ => false
theorem sameR_iff : ∀ (a b : List Rec), sameR a b = true ↔ a = b
  | [], [] => by simp [sameR]
  | [], _ :: _ => by simp [sameR]
  | _ :: _, [] => by simp [sameR]
  | x :: r, y :: s => by simp [sameR, eq1_iff, sameR_iff r s]
theorem sameR_len {a b : List Rec} (h : a.length ≠ b.length) : sameR a b = false := by
  rw [Bool.eq_false_iff, ne_eq, sameR_iff]; rintro rfl; exact h rfl
def sameT (a b : Ba) : Bool := a.1 == b.1 && (a.2.1 == b.2.1 && (a.2.2.1 == b.2.2.1 && (a.2.2.2.1 == b.2.2.2.1 && (a.2.2.2.2.1 == b.2.2.2.2.1 && true))))
def sameB (a b : Ba) : Bool := bif sameT a b then sameR (recsB a) (recsB b) else false
theorem sameB_iff (a b : Ba) : sameB a b = true ↔ a = b := by
  obtain ⟨a1, a2, a3, a4, a5, a6, _⟩ := a
  obtain ⟨b1, b2, b3, b4, b5, b6, _⟩ := b
  unfold sameB
  cases h : sameT (a1, a2, a3, a4, a5, a6, PUnit.unit) (b1, b2, b3, b4, b5, b6, PUnit.unit) with
  | true =>
    simp only [cond_true, sameR_iff]
    simp [sameT] at h
    obtain ⟨rfl, rfl, rfl, rfl, rfl⟩ := h
    constructor
    · intro h; have h : a6 = b6 := h; rw [h]
    · intro h; injection h with _ h; injection h with _ h; injection h with _ h; injection h with _ h; injection h with _ h; injection h with h _
  | false =>
    simp only [cond_false]
    constructor
    · intro h; cases h
    · intro he
      exfalso
      have : sameT (a1, a2, a3, a4, a5, a6, PUnit.unit) (b1, b2, b3, b4, b5, b6, PUnit.unit) = true := by rw [he]; simp [sameT]
      rw [this] at h; cases h
def sameBs : List Ba → List Ba → Bool
  | [], [] => true
  | x :: r, y :: s => sameB x y && sameBs r s
  | _, _ => false
theorem sameBs_iff : ∀ (a b : List Ba), sameBs a b = true ↔ a = b
  | [], [] => by simp [sameBs]
  | [], _ :: _ => by simp [sameBs]
  | _ :: _, [] => by simp [sameBs]
  | x :: r, y :: s => by simp [sameBs, sameB_iff, sameBs_iff r s]
theorem sameBs_len {a b : List Ba} (h : a.length ≠ b.length) : sameBs a b = false := by
  rw [Bool.eq_false_iff, ne_eq, sameBs_iff]; rintro rfl; exact h rfl
end Go.Proofs.Ytdhpjpidcbplbaa
