/- ENGINE 2, 1: abstract values and the run of a function's code over them, as a proposition. Nothing here names a program. -/
import Derived.Handy
import Derived.Still
import Derived.Deep.Draws
namespace Go.Proofs.Ythlkhjfilfdpiaa.Eng
set_option linter.unusedVariables false
set_option linter.unusedSimpArgs false
open Go

/-- What stands in a row's element: its cells' kinds, one behind the other. -/
inductive Ty where
  | nil
  | int (k : IntKind) (r : Ty)
  | bool (r : Ty)
  | str (r : Ty)
  | sl (a : Ty) (r : Ty)

/-- An element of a row, in plain Lean. -/
@[reducible] def El : Ty → Type
  | .nil => Unit
  | .int _ r => Int × El r
  | .bool r => Bool × El r
  | .str r => ByteArray × El r
  | .sl a r => List (El a) × El r
def tsz : Ty → Nat
  | .nil => 0
  | .int _ r => tsz r + 1
  | .bool r => tsz r + 1
  | .str r => tsz r + 1
  | .sl _ r => tsz r + 1
def zeroE : (t : Ty) → El t
  | .nil => ()
  | .int _ r => (0, zeroE r)
  | .bool r => (false, zeroE r)
  | .str r => (ByteArray.empty, zeroE r)
  | .sl _ r => ([], zeroE r)
/-- Does it hold no slices? -/
def flatTy : Ty → Bool
  | .nil => true
  | .int _ r => flatTy r
  | .bool r => flatTy r
  | .str r => flatTy r
  | .sl _ _ => false
/-- The element at a place. -/
def getE (t : Ty) (l : List (El t)) (i : Nat) : El t := l.getD i (zeroE t)

def sameK (k l : IntKind) : Option (PLift (k = l)) := if h : k = l then some ⟨h⟩ else none
def sameTy : (a b : Ty) → Option (PLift (a = b))
  | .nil, .nil => some ⟨rfl⟩
  | .int k r, .int l s => match sameK k l, sameTy r s with
    | some ⟨h⟩, some ⟨h'⟩ => some ⟨by rw [h, h']⟩
    | _, _ => none
  | .bool r, .bool s => match sameTy r s with
    | some ⟨h⟩ => some ⟨by rw [h]⟩
    | none => none
  | .str r, .str s => match sameTy r s with
    | some ⟨h⟩ => some ⟨by rw [h]⟩
    | none => none
  | .sl a r, .sl b s => match sameTy a b, sameTy r s with
    | some ⟨h⟩, some ⟨h'⟩ => some ⟨by rw [h, h']⟩
    | _, _ => none
  | _, _ => none
/-- A list of one kind, where one of another is asked for: the same kind, or no way. -/
def castK {α : Sort _} (t t' : Ty) (l : List (El t)) (no : α) (K : List (El t') → α) : α :=
  match sameTy t t' with
  | some ⟨h⟩ => @Eq.rec Ty t (fun t' _ => (List (El t') → α) → α) (fun K => K l) t' h K
  | none => no

/-- What is known of a value. Lists (cells of a struct, arguments, results) are 'cons', 'nil'. -/
inductive AV where
  | u                                   -- nothing
  | v (x : Value)                       -- it is x
  | nil
  | cons (h t : AV)
  | agg (l : AV)
  | tup (l : AV)
  | fn (f : FuncId) (c : AV)            -- a function, with what it has captured
  | gd (b : Bool) (x : AV)              -- x, if b
  | ptr (i o : Nat)                     -- the address of cell o of own object i
  | sc (i o n m : Nat) (t : Ty)         -- a slice over cells of own object i (t: what its elements are, if that is known)
  | rl (q : Bool) (t : Ty) (l : List (El t))  -- a slice that is only read; q: of memory that is new
  | rc (q : Bool) (t : Ty) (l : List (El t))  -- so, without room behind it
  | em                                  -- an empty slice without room
  | rp (k : Nat) (e : Nat → AV) (o : Nat) -- the address of cell o of k cells that are only read
  | ow (i k n : Nat)                    -- the slice that is own row i: n elements of k cells
  | ws (i k lo n : Nat)                 -- n elements of own row i from lo on; k cells each
  | op (i k x o : Nat)                  -- the address of cell o of element x of own row i

/-- Own objects. -/
inductive AO where
  | cells (l : AV)
  | row (q : Bool) (t : Ty) (e : TypeId) (l : List (El t))   -- a row; q: it is new, and so is all that is in it
  | fz (q : Bool) (t : Ty) (l : List (El t))                 -- a row that is only read from now on
  | dead
  | void                                  -- not yet there

abbrev Fr := List (Nat × AV)
abbrev Post := Fr → List AO → Nat → Prop

/-- A type, as far as the run asks. -/
structure TI where
  kd : Nat := 0              -- 1: a struct, 2: an array, 3: a slice, 5: a string
  sz : Nat := 1
  ag : Bool := false
  fl : List (Nat × TypeId) := []
  pl : List (Nat × Nat) := []   -- a struct's fields: offset and cells
  ar : Nat := 0
  el : TypeId := 0
  ze : Option Value := none
  eq : Option (List Nat) := none   -- equal where the cells are: the cells' kinds
  ik : Option IntKind := none      -- a number's kind
  by_ : Nat := 0                   -- bytes
  ro : Option Ty := none           -- its cells' kinds

/-- What a callee gives: its result, what the objects that it was handed are, what objects are new. -/
structure CR where
  pre : Prop
  res : AV
  lent : List AO := []
  new : List AO := []

abbrev Con := AV → List AO → Option CR

structure Env where
  ty : List (TypeId × TI)
  N : Nat
  call : FuncId → Con
  free : FuncId → Bool      -- is asked with plain values alone
  m : Nat := 0              -- so many objects are lent

def tyOf : List (TypeId × TI) → TypeId → Option TI
  | [], _ => none
  | (t, i) :: r, x => bif Nat.beq t x then some i else tyOf r x

def look : Fr → Nat → AV
  | [], _ => .u
  | (i, v) :: r, j => bif Nat.beq i j then v else look r j

/-- What an operand is, read under its guard. -/
def strip : AV → AV
  | .gd _ x => x
  | x => x
def raw (fr : Fr) : Operand → AV
  | .tmp t => look fr t
  | .const v => .v v
  | .func f => .fn f .nil
  | .global _ => .u
def opd (fr : Fr) (x : Operand) : AV := strip (raw fr x)

/-- A value brought to its outer form. -/
def forceV (x : Value) (K : Value → Prop) : Prop :=
  match x with
  | .bool b => K (.bool b)
  | .int k n => K (.int k n)
  | .pointer a => K (.pointer a)
  | .string s => K (.string s)
  | .slice a n m => K (.slice a n m)
  | .map r => K (.map r)
  | .nilFunc => K .nilFunc
  | .nilIface => K .nilIface
  | _ => False
def force : AV → (AV → Prop) → Prop
  | .u, K => K .u
  | .v x, K => forceV x fun x => K (.v x)
  | .nil, K => K .nil
  | .cons h t, K => force h fun h => force t fun t => K (.cons h t)
  | .agg l, K => force l fun l => K (.agg l)
  | .tup l, K => force l fun l => K (.tup l)
  | .fn f c, K => force c fun c => K (.fn f c)
  | .gd b x, K => force x fun x => K (.gd b x)
  | .ptr i o, K => K (.ptr i o)
  | .sc i o n m t, K => K (.sc i o n m t)
  | .rl q t l, K => K (.rl q t l)
  | .rc q t l, K => K (.rc q t l)
  | .em, K => K .em
  | .rp k e o, K => K (.rp k e o)
  | .ow i k n, K => K (.ow i k n)
  | .ws i k lo n, K => K (.ws i k lo n)
  | .op i k x o, K => K (.op i k x o)

/-! ### Lists of cells -/
def nth : AV → Nat → Option AV
  | .cons h _, 0 => some h
  | .cons _ t, n + 1 => nth t n
  | _, _ => none
/-- n cells from o on -/
def tk : AV → Nat → Option AV
  | _, 0 => some .nil
  | .cons h t, n + 1 => (tk t n).map (.cons h)
  | _, _ + 1 => none
def part : AV → Nat → Nat → Option AV
  | l, 0, n => tk l n
  | .cons _ t, o + 1, n => part t o n
  | _, _ + 1, _ => none
/-- cells over others, from the head on -/
def over : AV → AV → Option AV
  | l, .nil => some l
  | .cons _ t, .cons h r => (over t r).map (.cons h)
  | _, _ => none
/-- cells over others, from o on -/
def setc : AV → Nat → AV → Option AV
  | l, 0, x => over l x
  | .cons h t, o + 1, x => (setc t o x).map (.cons h)
  | _, _ + 1, _ => none
def ofValues : List Value → AV
  | [] => .nil
  | x :: r => .cons (.v x) (ofValues r)
/-- is it one cell? are all of a list? -/
def one : AV → Bool
  | .v (.agg _) => false
  | .v (.tuple _) => false
  | .v _ => true
  | .fn _ _ => true
  | .ptr _ _ => true
  | .rl _ _ _ => true
  | .rc _ _ _ => true
  | .em => true
  | .ow _ _ _ => true
  | .ws _ _ _ _ => true
  | .sc _ _ _ _ _ => true
  | _ => false
def ones : AV → Bool
  | .nil => true
  | .cons h t => one h && ones t
  | _ => false
def lenIs : AV → Nat → Bool
  | .nil, 0 => true
  | .cons _ t, n + 1 => lenIs t n
  | _, _ => false
/-- the cells of a value -/
def cellsOf : AV → Option AV
  | .agg l => bif ones l then some l else none
  | .v x => bif one (.v x) then some (.cons (.v x) .nil) else none
  | .fn f c => some (.cons (.fn f c) .nil)
  | .ptr i o => some (.cons (.ptr i o) .nil)
  | .rl q t l => some (.cons (.rl q t l) .nil)
  | .rc q t l => some (.cons (.rc q t l) .nil)
  | .em => some (.cons .em .nil)
  | .ow i k n => some (.cons (.ow i k n) .nil)
  | .ws i k lo n => some (.cons (.ws i k lo n) .nil)
  | .sc i o n m t => some (.cons (.sc i o n m t) .nil)
  | _ => none
/-- k cells of a function of places -/
def ofFn (e : Nat → AV) : Nat → Nat → AV
  | _, 0 => .nil
  | o, n + 1 => .cons (e o) (ofFn e (o + 1) n)

def setAO : List AO → Nat → AO → List AO
  | [], _, _ => []
  | _ :: r, 0, x => x :: r
  | o :: r, n + 1, x => o :: setAO r n x
def snoc : List AO → AO → List AO
  | [], x => [x]
  | o :: r, x => o :: snoc r x
def getAO : List AO → Nat → AO
  | [], _ => .dead
  | o :: _, 0 => o
  | _ :: r, n + 1 => getAO r n

/-- What an operation gives. -/
inductive R where
  | no
  | ok (v : AV)
  | ob (p : Prop) (v : AV)
  | new (v : AV) (o : AO)                 -- one own object more
  | set (v : AV) (i : Nat) (o : AO)       -- an own object turned
  | upd (v : AV) (i : Nat) (o : AO)       -- so, with a value
  | call (r : CR)
  | act (m : Nat) (p : Prop) (v : AV) (hp : List AO)   -- all own objects as they are behind it (m: 0 nothing comes of it, 1 a value, 2 a callee is entered)

/-! ### Elements of rows, and their cells -/
/-- An element's cells. -/
def encC (q : Bool) : (t : Ty) → El t → AV
  | .nil, _ => .nil
  | .int k r, x => .cons (.v (.int k x.1)) (encC q r x.2)
  | .bool r, x => .cons (.v (.bool x.1)) (encC q r x.2)
  | .str r, x => .cons (.v (.string x.1)) (encC q r x.2)
  | .sl a r, x => .cons (.rl q a x.1) (encC q r x.2)
/-- The element that cells are. -/
def decK {α : Type} : (t : Ty) → AV → α → (Bool → El t → α) → α
  | .nil, .nil, _, K => K true ()
  | .int k r, .cons (.v (.int l n)) m, no, K => if l = k then decK r m no fun q x => K q (n, x) else no
  | .bool r, .cons (.v (.bool b)) m, no, K => decK r m no fun q x => K q (b, x)
  | .str r, .cons (.v (.string b)) m, no, K => decK r m no fun q x => K q (b, x)
  | .sl a r, .cons (.rl q t l) m, no, K => castK t a l no fun l => decK r m no fun q' x => K (q && q') (l, x)
  | .sl a r, .cons (.rc q t l) m, no, K => castK t a l no fun l => decK r m no fun q' x => K (q && q') (l, x)
  | .sl a r, .cons .em m, no, K => decK r m no fun q' x => K q' ([], x)
  | .sl a r, .cons (.v (.slice none n _)) m, no, K => bif Nat.beq n 0 then decK r m no fun q' x => K q' ([], x) else no
  | _, _, no, _ => no
/-- So many elements. -/
def decN {α : Type} (t : Ty) : Nat → AV → α → (Bool → List (El t) → α) → α
  | 0, _, _, K => K true []
  | n + 1, l, no, K => match part l 0 (tsz t), part l (tsz t) (n * tsz t) with
    | some a, some b => decK t a no fun q x => decN t n b no fun q' r => K (q && q') (x :: r)
    | _, _ => no
def nthD (l : AV) (i : Nat) : AV := match nth l i with | some x => x | none => .u

def hasN : List Nat → Nat → Bool
  | [], _ => false
  | x :: r, i => Nat.beq x i || hasN r i
def lenN : List Nat → Nat
  | [] => 0
  | _ :: r => lenN r + 1

/-- Own rows among cells, as what is only read; which they are; they, turned into that. -/
def unow1 (hp : List AO) : AV → AV
  | .ow i k n => match getAO hp i with
    | .row q t _ l => .rl q t l
    | .fz q t l => .rl q t l
    | _ => .ow i k n
  | x => x
def unow (hp : List AO) : AV → AV
  | .cons h m => .cons (unow1 hp h) (unow hp m)
  | x => x
def owsOf : AV → List Nat
  | .cons (.ow i _ _) m => i :: owsOf m
  | .cons _ m => owsOf m
  | _ => []
def frz1 : AO → AO
  | .row q t _ l => .fz q t l
  | o => o
def frz : List Nat → List AO → List AO
  | [], hp => hp
  | i :: r, hp => frz r (setAO hp i (frz1 (getAO hp i)))

/-! ### Operators -/
def same (k l : IntKind) (x : Value) : R := if k = l then .ok (.v x) else .no
def binV (op : BinOp) (x y : Value) : R :=
  match op, x, y with
  | .add, .int k a, .int l b => same k l (.int k (k.wrap (a + b)))
  | .sub, .int k a, .int l b => same k l (.int k (k.wrap (a - b)))
  | .mul, .int k a, .int l b => same k l (.int k (k.wrap (a * b)))
  | .quo, .int k a, .int l b => if k = l then .ob (b ≠ 0) (.v (.int k (k.wrap (a.tdiv b)))) else .no
  | .rem, .int k a, .int l b => if k = l then .ob (b ≠ 0) (.v (.int k (a.tmod b))) else .no
  | .shl, .int k a, .int _ b => .ob (0 ≤ b) (.v (.int k (k.wrap (a * 2 ^ (min b.toNat k.bits)))))
  | .shr, .int k a, .int _ b => .ob (0 ≤ b) (.v (.int k (a.fdiv (2 ^ (min b.toNat k.bits)))))
  | .and, .int k a, .int l b => same k l (.int k (k.wrap (BitVec.ofInt k.bits a &&& BitVec.ofInt k.bits b).toNat))
  | .or, .int k a, .int l b => same k l (.int k (k.wrap (BitVec.ofInt k.bits a ||| BitVec.ofInt k.bits b).toNat))
  | .xor, .int k a, .int l b => same k l (.int k (k.wrap (BitVec.ofInt k.bits a ^^^ BitVec.ofInt k.bits b).toNat))
  | .lss, .int k a, .int l b => same k l (.bool (decide (a < b)))
  | .leq, .int k a, .int l b => same k l (.bool (decide (a ≤ b)))
  | .gtr, .int k a, .int l b => same k l (.bool (decide (a > b)))
  | .geq, .int k a, .int l b => same k l (.bool (decide (a ≥ b)))
  | .eql, .int k a, .int l b => same k l (.bool (a == b))
  | .neq, .int k a, .int l b => same k l (.bool (a != b))
  | _, _, _ => .no
def unV (op : UnOp) (x : Value) : R :=
  match op, x with
  | .not, .bool b => .ok (.v (.bool (!b)))
  | .neg, .int k n => .ok (.v (.int k (k.wrap (0 - n))))
  | _, _ => .no

/-! ### Operations -/
def lift (x : Option AV) (f : AV → R) : R := match x with | some v => f v | none => .no
/-- parts over cells, each at its place -/
def fillA (pl : Nat → Option (Nat × Nat)) : AV → List (Nat × AV) → Option AV
  | l, [] => some l
  | l, (i, x) :: r =>
    match pl i, cellsOf x with
    | some (off, sz), some c => bif lenIs c sz then (match setc l off c with | some l' => fillA pl l' r | none => none) else none
    | _, _ => none

def partR (i : TI) (l : AV) (off : Nat) : R :=
  bif i.ag then lift (part l off i.sz) fun c => .ok (.agg c) else lift ((part l off 1).bind (nth · 0)) .ok
def loadR (i : TI) (hp : List AO) : AV → R
  | .ptr j o => match getAO hp j with
    | .cells l => partR i l o
    | _ => .no
  | .rp k e o => bif i.ag then (bif Nat.ble (o + i.sz) k then .ok (.agg (ofFn e o i.sz)) else .no) else (bif Nat.blt o k then .ok (e o) else .no)
  | .op j k x o => match getAO hp j with
    | .row q t _ l => bif Nat.beq (tsz t) k then partR i (encC q t (getE t l x)) o else .no
    | .fz q t l => bif Nat.beq (tsz t) k then partR i (encC q t (getE t l x)) o else .no
    | _ => .no
  | _ => .no
def putR (hp : List AO) (j : Nat) (ows : List Nat) (o : AO) : R :=
  match ows with
  | [] => .set .u j o
  | _ => .act 0 True .u (setAO (frz ows hp) j o)
def storeR (i : TI) (hp : List AO) (x y : AV) : R :=
  match x, cellsOf y with
  | .ptr j o, some c => bif lenIs c i.sz then (match getAO hp j with
    | .cells l => lift (setc l o c) fun l' => .set .u j (.cells l')
    | _ => .no) else .no
  | .op j k x o, some c => bif lenIs c i.sz && !(hasN (owsOf c) j) then (match getAO hp j with
    | .row q t e l => bif Nat.beq (tsz t) k then (match setc (encC q t (getE t l x)) o (unow hp c) with
      | some c' => decK t c' .no fun q' x' => putR hp j (owsOf c) (.row (q && q') t e (l.set x x'))
      | none => .no) else .no
    | _ => .no) else .no
  | _, _ => .no
def addR (off : Nat) : AV → R
  | .ptr j o => .ok (.ptr j (o + off))
  | .rp k e o => .ok (.rp k e (o + off))
  | .op j k x o => .ok (.op j k x (o + off))
  | _ => .no
def indexAddrR (kd n k : Nat) (z : Int) : AV → R
  | .ptr j o => bif Nat.beq kd 2 then .ob (0 ≤ z ∧ z < n) (.ptr j (o + z.toNat * k)) else .no
  | .sc j o m _ t => bif Nat.beq kd 3 then .ob (0 ≤ z ∧ z < m) (.ptr j (o + z.toNat * k)) else .no
  | .rl q t l => bif Nat.beq kd 3 && Nat.beq (tsz t) k then .ob (0 ≤ z ∧ z < l.length) (.rp k (fun y => nthD (encC q t (getE t l z.toNat)) y) 0) else .no
  | .rc q t l => bif Nat.beq kd 3 && Nat.beq (tsz t) k then .ob (0 ≤ z ∧ z < l.length) (.rp k (fun y => nthD (encC q t (getE t l z.toNat)) y) 0) else .no
  | .ow j k' m => bif Nat.beq kd 3 && Nat.beq k' k then .ob (0 ≤ z ∧ z < m) (.op j k z.toNat 0) else .no
  | .ws j k' lo m => bif Nat.beq kd 3 && Nat.beq k' k then .ob (0 ≤ z ∧ z < m) (.op j k (lo + z.toNat) 0) else .no
  | _ => .no

/-- Equal? -/
def leafQ : Nat → AV → AV → Option Bool
  | 0, .v (.int k a), .v (.int l b) => if k = l then some (a == b) else none
  | 1, .v (.bool a), .v (.bool b) => some (a == b)
  | 2, .v (.string a), .v (.string b) => some (a.toList == b.toList)
  | _, _, _ => none
def eqQ : List Nat → AV → AV → Option Bool
  | [], .nil, .nil => some true
  | t :: ts, .cons a x, .cons b y => match leafQ t a b, eqQ ts x y with
    | some p, some q => some (p && q)
    | _, _ => none
  | _, _, _ => none
def eqR (op : BinOp) (b : Option Bool) : R :=
  match op, b with
  | .eql, some b => .ok (.v (.bool b))
  | .neq, some b => .ok (.v (.bool (!b)))
  | _, _ => .no
def binR (E : Env) (op : BinOp) (t : TypeId) : AV → AV → R
  | .v (.string a), .v (.string b) => match tyOf E.ty t with
    | some i => (match i.eq, i.ag with | some [2], false => eqR op (some (a.toList == b.toList)) | _, _ => .no)
    | none => .no
  | .v (.bool a), .v (.bool b) => match tyOf E.ty t with
    | some i => (match i.eq, i.ag with | some [1], false => eqR op (some (a == b)) | _, _ => .no)
    | none => .no
  | .v a, .v b => binV op a b
  | .agg l, .agg m => match tyOf E.ty t with
    | some i => (match i.eq with | some ks => bif i.ag then eqR op (eqQ ks l m) else .no | none => .no)
    | none => .no
  | _, _ => .no

/-- A bound of a slice. -/
def bndV : AV → Option Int
  | .v (.int _ z) => some z
  | _ => none
def bnd (d : Int) : Option AV → Option Int
  | none => some d
  | some v => bndV v
/-- Part of a list. -/
def cutL {α : Type} (l : List α) (lo hi : Option AV) (a b : Nat) : List α :=
  match lo, hi with
  | none, none => l
  | none, some _ => l.take b
  | some _, none => l.drop a
  | some _, some _ => (l.take b).drop a
def cutR {α : Type} (l : List α) (lo hi : Option AV) (a b : Nat) (K : List α → R) : R :=
  match lo, hi with
  | none, none => K l
  | none, some _ => K (l.take b)
  | some _, none => K (l.drop a)
  | some _, some _ => K ((l.take b).drop a)
theorem cutR_eq {α : Type} (l : List α) (lo hi : Option AV) (a b : Nat) (K : List α → R) : cutR l lo hi a b K = K (cutL l lo hi a b) := by cases lo <;> cases hi <;> rfl
def sliceR (i : TI) (k : Nat) (te : Option Ty) (cl z0 : Bool) (lo hi mx : Option AV) : AV → R
  | .ptr j o => bif Nat.beq i.kd 2 && (mx.isNone || hi.isSome) then match bnd 0 lo, bnd i.ar hi, bnd i.ar mx with
    | some l, some h, some m => .ob (0 ≤ l ∧ l ≤ h ∧ h ≤ m ∧ m ≤ i.ar) (.sc j (bif Nat.beq m.toNat l.toNat then o else o + l.toNat * k) (h.toNat - l.toNat) (m.toNat - l.toNat) (te.getD .nil))
    | _, _, _ => .no else .no
  | .sc j o n c t => bif Nat.beq i.kd 3 && (mx.isNone || hi.isSome) then match bnd 0 lo, bnd n hi, bnd c mx with
    | some l, some h, some m => .ob (0 ≤ l ∧ l ≤ h ∧ h ≤ m ∧ m ≤ c) (.sc j (bif Nat.beq m.toNat l.toNat then o else o + l.toNat * k) (h.toNat - l.toNat) (m.toNat - l.toNat) t)
    | _, _, _ => .no else .no
  | .rl q t x => bif Nat.beq i.kd 3 && Nat.beq (tsz t) k then (match bnd 0 lo, bnd x.length hi with
    | some l, some h => bif mx.isNone then cutR x lo hi l.toNat h.toNat fun y => .ob (0 ≤ l ∧ l ≤ h ∧ h ≤ x.length) (.rl q t y)
      else bif cl then (bif z0 then .ob (l = 0 ∧ h = 0) .em else cutR x lo hi l.toNat h.toNat fun y => .ob (0 ≤ l ∧ l ≤ h ∧ h ≤ x.length) (.rc q t y)) else .no
    | _, _ => .no) else .no
  | .rc q t x => bif Nat.beq i.kd 3 && Nat.beq (tsz t) k then (match bnd 0 lo, bnd x.length hi with
    | some l, some h => bif mx.isNone then cutR x lo hi l.toNat h.toNat fun y => .ob (0 ≤ l ∧ l ≤ h ∧ h ≤ x.length) (.rl q t y)
      else bif cl then (bif z0 then .ob (l = 0 ∧ h = 0) .em else cutR x lo hi l.toNat h.toNat fun y => .ob (0 ≤ l ∧ l ≤ h ∧ h ≤ x.length) (.rc q t y)) else .no
    | _, _ => .no) else .no
  | .ow j k' n => bif Nat.beq i.kd 3 && Nat.beq k' k && mx.isNone then (match bnd 0 lo, bnd n hi with
    | some l, some h => .ob (0 ≤ l ∧ l ≤ h ∧ h ≤ n) (.ws j k l.toNat (h.toNat - l.toNat))
    | _, _ => .no) else .no
  | .ws j k' lo' n => bif Nat.beq i.kd 3 && Nat.beq k' k && mx.isNone then (match bnd 0 lo, bnd n hi with
    | some l, some h => .ob (0 ≤ l ∧ l ≤ h ∧ h ≤ n) (.ws j k (lo' + l.toNat) (h.toNat - l.toNat))
    | _, _ => .no) else .no
  | .v (.slice none n m) => bif Nat.beq i.kd 3 && mx.isNone && Nat.beq n 0 && Nat.beq m 0 then (match bnd 0 lo, bnd 0 hi with
    | some l, some h => .ob (l = 0 ∧ h = 0) (.v (.slice none 0 0))
    | _, _ => .no) else .no
  | .v (.string s) => bif Nat.beq i.kd 5 && mx.isNone then match bnd 0 lo, bnd s.size hi with
    | some l, some h => .ob (0 ≤ l ∧ l ≤ h ∧ h ≤ s.size) (.v (.string (s.extract l.toNat h.toNat)))
    | _, _ => .no else .no
  | _ => .no
def setR (j : Nat) (l : AV) (o : Nat) (c : AV) (v : AV) : R :=
  bif ones c then (match setc l o c with | some l' => .upd v j (.cells l') | none => .no) else .no
def copyR (hp : List AO) (k : Nat) : AV → AV → R
  | .sc j o n _ _, .sc i o' n' _ _ => match getAO hp i, getAO hp j with
    | .cells li, .cells lj => (match part li o' (Nat.min n' n * k) with
      | some c => setR j lj o c (.v (.int .i64 (Nat.min n' n)))
      | none => .no)
    | _, _ => .no
  | _, _ => .no
def lenR (i : TI) : AV → R
  | .rl _ _ l => bif Nat.beq i.kd 3 then .ok (.v (.int .i64 l.length)) else .no
  | .rc _ _ l => bif Nat.beq i.kd 3 then .ok (.v (.int .i64 l.length)) else .no
  | .em => bif Nat.beq i.kd 3 then .ok (.v (.int .i64 0)) else .no
  | .ow _ _ n => bif Nat.beq i.kd 3 then .ok (.v (.int .i64 n)) else .no
  | .ws _ _ _ n => bif Nat.beq i.kd 3 then .ok (.v (.int .i64 n)) else .no
  | .sc _ _ n _ _ => bif Nat.beq i.kd 3 then .ok (.v (.int .i64 n)) else .no
  | .v (.slice _ n _) => bif Nat.beq i.kd 3 then .ok (.v (.int .i64 n)) else .no
  | .v (.string s) => bif Nat.beq i.kd 5 then .ok (.v (.int .i64 s.size)) else .no
  | .agg _ => bif Nat.beq i.kd 2 then .ok (.v (.int .i64 i.ar)) else .no
  | _ => .no
/-- The arguments, and what is captured behind them. -/
def appA : AV → AV → AV
  | .cons a l, c => .cons a (appA l c)
  | .nil, c => c
  | x, _ => x
/-! ### Rows that grow -/
/-- The list that a value is, what own rows are in it. -/
def srcK {α : Type} (hp : List AO) (t : Ty) (v : AV) (no : α) (K : Bool → List (El t) → List Nat → α) : α :=
  match v with
  | .rl q t' l => castK t' t l no fun l => K q l []
  | .rc q t' l => castK t' t l no fun l => K q l []
  | .ow j k n => (match getAO hp j with
    | .row q t' _ l => castK t' t l no fun l => K q l []
    | .fz q t' l => castK t' t l no fun l => K q l []
    | _ => no)
  | .ws j k lo n => (match getAO hp j with
    | .row q t' _ l => bif Nat.beq (tsz t') k then castK t' t l no fun l => K q ((l.drop lo).take n) [] else no
    | .fz q t' l => bif Nat.beq (tsz t') k then castK t' t l no fun l => K q ((l.drop lo).take n) [] else no
    | _ => no)
  | .v (.slice none n _) => bif Nat.beq n 0 then K true [] [] else no
  | .em => K true [] []
  | .sc i o n _ _ => (match getAO hp i with
    | .cells c => (match part c o (n * tsz t) with
      | some p => decN t n (unow hp p) no fun q l => K q l (owsOf p)
      | none => no)
    | _ => no)
  | _ => no
def appQ (hp : List AO) (nx : Nat) (e : TypeId) (ie : TI) (t : Ty) (s : AV) (q' : Bool) (l' : List (El t)) (ows : List Nat) : R :=
    match s with
    | .v (.slice none n m) => bif Nat.beq n 0 && Nat.beq m 0 then .act 1 (l'.length ≤ 1000000000) (.ow nx (tsz t) l'.length) (snoc (frz ows hp) (.row q' t e l')) else .no
    | .ow j k n => bif hasN ows j then .no else (match getAO hp j with
      | .row q t0 e0 l => bif Nat.beq e0 e then castK t0 t l .no fun l => .act 1 ((l ++ l').length ≤ 1000000000) (.ow nx (tsz t) (l ++ l').length) (snoc (frz ows (setAO hp j .dead)) (.row (q && q') t e (l ++ l'))) else .no
      | _ => .no)
    | .rc q t0 l => castK t0 t l .no fun l => .act 1 ((l ++ l').length ≤ 1000000000) (.rl (q && q') t (l ++ l')) (frz ows hp)
    | .em => .act 1 (l'.length ≤ 1000000000) (.ow nx (tsz t) l'.length) (snoc (frz ows hp) (.row q' t e l'))
    | _ => .no
def appR (hp : List AO) (nx : Nat) (e : TypeId) (ie : TI) (t : Ty) (s x : AV) : R :=
  srcK hp t x .no fun q' l' ows => appQ hp nx e ie t s (q' || flatTy t) l' ows
/-- So many nought elements more. -/
def appZ (hp : List AO) (nx : Nat) (e : TypeId) (t : Ty) (z : Value) (s : AV) (n : Int) : R :=
  decK t (ofValues z.cells.toList) .no fun q' y => match s with
    | .ow j k m => (match getAO hp j with
      | .row q t0 e0 l => bif Nat.beq e0 e then castK t0 t l .no fun l => .act 1 (0 ≤ n ∧ (l ++ List.replicate n.toNat y).length ≤ 1000000000) (.ow nx (tsz t) (l ++ List.replicate n.toNat y).length) (snoc (setAO hp j .dead) (.row (q && q') t e (l ++ List.replicate n.toNat y))) else .no
      | _ => .no)
    | .v (.slice none a b) => bif Nat.beq a 0 && Nat.beq b 0 then .act 1 (0 ≤ n ∧ (List.replicate n.toNat y).length ≤ 1000000000) (.ow nx (tsz t) (List.replicate n.toNat y).length) (snoc hp (.row q' t e (List.replicate n.toNat y))) else .no
    | _ => .no
/-- Nought elements over a part of an own row. -/
def clearL {α : Type} (l : List α) (lo n : Nat) (y : α) : List α := l.take lo ++ (List.replicate n y ++ l.drop (lo + n))
def clearR (hp : List AO) (k : Nat) (z : Value) (x : AV) : R :=
  match x with
  | .ws j k' lo n => (match getAO hp j with
    | .row q t e l => bif Nat.beq (tsz t) k && Nat.beq k' k then decK t (ofValues z.cells.toList) .no fun q' y => .upd (.tup .nil) j (.row (q && q') t e (clearL l lo n y)) else .no
    | _ => .no)
  | _ => .no
abbrev tyU8 : Ty := .int .u8 .nil
def bytesOf (l : List (El tyU8)) : ByteArray := ⟨(l.map fun x => UInt8.ofNat x.1.toNat).toArray⟩
def ofBytes (s : ByteArray) : List (El tyU8) := s.data.toList.map fun b => ((b.toNat : Int), ())
/-- Bytes as text; text as bytes. -/
def txtR (hp : List AO) (v : AV) : R :=
  match v with
  | .sc _ _ _ _ _ => .no
  | v => srcK hp tyU8 v .no fun _ l _ => .ok (.v (.string (bytesOf l)))
def convR (E : Env) (hp : List AO) (nx : Nat) (s i : TI) (v : AV) : R :=
  bif Nat.beq s.kd 3 && Nat.beq i.kd 5 then (match tyOf E.ty s.el with
    | some ie => (match ie.ik with
      | some .u8 => txtR hp v
      | _ => .no)
    | none => .no)
  else bif Nat.beq s.kd 5 && Nat.beq i.kd 3 then (match tyOf E.ty i.el, v with
    | some ie, .v (.string b) => (match ie.ik with
      | some .u8 => .act 1 (b.size ≤ 1000000000) (.ow nx 1 b.size) (snoc hp (.row true tyU8 i.el (ofBytes b)))
      | _ => .no)
    | _, _ => .no)
  else .no
def callB (E : Env) (hp : List AO) (nx : Nat) (b : Builtin) (ts : List TypeId) (l : AV) : R :=
  match b, ts, l with
  | .min, _, .cons (.v (.int k x)) (.cons (.v (.int _ y)) .nil) => .ok (.v (.int k (if y < x then y else x)))
  | .max, _, .cons (.v (.int k x)) (.cons (.v (.int _ y)) .nil) => .ok (.v (.int k (if y > x then y else x)))
  | .len, t :: _, .cons x .nil => (match tyOf E.ty t with
    | some i => lenR i x
    | none => .no)
  | .copy, t :: _, .cons x (.cons y .nil) => (match tyOf E.ty t with
    | some i => (match tyOf E.ty i.el with
      | some ie => bif Nat.beq i.kd 3 then copyR hp ie.sz x y else .no
      | none => .no)
    | none => .no)
  | .clear, t :: _, .cons x .nil => (match tyOf E.ty t with
    | some i => (match tyOf E.ty i.el with
      | some ie => (match ie.ze with
        | some z => bif Nat.beq i.kd 3 then clearR hp ie.sz z x else .no
        | none => .no)
      | none => .no)
    | none => .no)
  | .append, [t, t'], .cons x (.cons y .nil) => (match tyOf E.ty t with
    | some i => (match tyOf E.ty i.el with
      | some ie => (match ie.ro, ie.ze with
        | some ro, some z => bif Nat.beq i.kd 3 && Nat.blt 0 ie.sz && Nat.ble ie.by_ 100000 then (bif Nat.beq t t' then appR hp nx i.el ie ro x y else (match tyOf E.ty t', y with
          | some it, .v (.int _ n) => (match it.ik with
            | some .i64 => appZ hp nx i.el ro z x n
            | _ => .no)
          | _, _ => .no)) else .no
        | _, _ => .no)
      | none => .no)
    | none => .no)
  | _, _, _ => .no

/-! ### Callees -/
/-- Nothing of one's own is in it. -/
def shut : AV → Bool
  | .v _ => true
  | .nil => true
  | .cons a b => shut a && shut b
  | .agg l => shut l
  | .tup l => shut l
  | .fn _ l => shut l
  | .rl _ _ _ => true
  | .rc _ _ _ => true
  | .em => true
  | .rp _ _ _ => true
  | _ => false
/-- All that is in it is new. -/
def neat : AV → Bool
  | .v _ => true
  | .nil => true
  | .cons a b => neat a && neat b
  | .agg l => neat l
  | .tup l => neat l
  | .fn _ l => neat l
  | .rl q _ _ => q
  | _ => false
def refs : AV → List Nat
  | .cons a b => refs a ++ refs b
  | .agg l => refs l
  | .tup l => refs l
  | .fn _ l => refs l
  | .gd _ x => refs x
  | .ptr i _ => [i]
  | .sc i _ _ _ _ => [i]
  | .ow i _ _ => [i]
  | .ws i _ _ _ => [i]
  | .op i _ _ _ => [i]
  | _ => []
def refsO : AO → List Nat
  | .cells l => refs l
  | _ => []
def reach (hp : List AO) : Nat → List Nat → List Nat → List Nat
  | 0, _, acc => acc
  | _, [], acc => acc
  | d + 1, i :: r, acc => bif hasN acc i then reach hp d r acc else reach hp d (refsO (getAO hp i) ++ r) (acc ++ [i])
/-- Where one's own i stands among those that are handed on. -/
def idx : List Nat → Nat → Option Nat
  | [], _ => none
  | x :: r, i => bif Nat.beq x i then some 0 else (match idx r i with | some j => some (j + 1) | none => none)
def absA (π : List Nat) : AV → Option AV
  | .cons a b => match absA π a, absA π b with | some a, some b => some (.cons a b) | _, _ => none
  | .agg l => match absA π l with | some l => some (.agg l) | none => none
  | .tup l => match absA π l with | some l => some (.tup l) | none => none
  | .fn f l => match absA π l with | some l => some (.fn f l) | none => none
  | .gd b x => match absA π x with | some x => some (.gd b x) | none => none
  | .ptr i o => match idx π i with | some i => some (.ptr i o) | none => none
  | .sc i o n m t => match idx π i with | some i => some (.sc i o n m t) | none => none
  | .ow i k n => match idx π i with | some i => some (.ow i k n) | none => none
  | .ws i k lo n => match idx π i with | some i => some (.ws i k lo n) | none => none
  | .op i k x o => match idx π i with | some i => some (.op i k x o) | none => none
  | x => some x
def absO (π : List Nat) : AO → Option AO
  | .cells l => match absA π l with | some l => some (.cells l) | none => none
  | .void => none
  | .dead => none
  | o => some o
def lentOf (π0 : List Nat) (hp : List AO) : List Nat → Option (List AO)
  | [] => some []
  | i :: r => match absO π0 (getAO hp i), lentOf π0 hp r with | some o, some l => some (o :: l) | _, _ => none
/-- The way back: what is new stands behind. -/
def renI : List Nat → Nat → Nat → Nat
  | [], base, j => base + j
  | i :: _, _, 0 => i
  | _ :: r, base, j + 1 => renI r base j
def renA (f : Nat → Nat) : AV → AV
  | .cons a b => .cons (renA f a) (renA f b)
  | .agg l => .agg (renA f l)
  | .tup l => .tup (renA f l)
  | .fn g l => .fn g (renA f l)
  | .gd b x => .gd b (renA f x)
  | .ptr i o => .ptr (f i) o
  | .sc i o n m t => .sc (f i) o n m t
  | .ow i k n => .ow (f i) k n
  | .ws i k lo n => .ws (f i) k lo n
  | .op i k x o => .op (f i) k x o
  | x => x
def renO (f : Nat → Nat) : AO → AO
  | .cells l => .cells (renA f l)
  | o => o
def updAll : List AO → List Nat → List AO → List AO
  | hp, i :: r, o :: l => updAll (setAO hp i o) r l
  | hp, _, _ => hp
def joinO : List AO → List AO → List AO
  | [], m => m
  | o :: r, m => o :: joinO r m
def mapO (f : Nat → Nat) : List AO → List AO
  | [] => []
  | o :: r => renO f o :: mapO f r
def lenO : List AO → Nat
  | [] => 0
  | _ :: r => lenO r + 1
def lenA : AV → Nat
  | .cons _ m => lenA m + 1
  | _ => 0
/-- Whatever is new is no longer told so. -/
def wkA : AV → AV
  | .cons a b => .cons (wkA a) (wkA b)
  | .agg l => .agg (wkA l)
  | .tup l => .tup (wkA l)
  | .fn g l => .fn g (wkA l)
  | .gd b x => .gd b (wkA x)
  | .rl _ t l => .rl false t l
  | .rc _ t l => .rc false t l
  | .rp k e o => .rp k (fun y => wkA (e y)) o
  | x => x
/-- One's own, seen as what is only read. -/
def viewW (P : Nat → Nat → AV) (hp : List AO) : AV → AV
  | .cons a b => .cons (viewW P hp a) (viewW P hp b)
  | .agg l => .agg (viewW P hp l)
  | .tup l => .tup (viewW P hp l)
  | .fn g l => .fn g (viewW P hp l)
  | .ptr i o => P i o
  | .ow i k n => (match getAO hp i with
    | .row _ t _ l => .rl false t l
    | .fz _ t l => .rl false t l
    | _ => .ow i k n)
  | .ws i k lo n => (match getAO hp i with
    | .row _ t _ l => bif Nat.beq (tsz t) k then .rl false t ((l.drop lo).take n) else .ws i k lo n
    | .fz _ t l => bif Nat.beq (tsz t) k then .rl false t ((l.drop lo).take n) else .ws i k lo n
    | _ => .ws i k lo n)
  | .sc i o n m t => (match getAO hp i with
    | .cells c => (match part c o (n * tsz t) with
      | some p => bif Nat.blt 0 (tsz t) && Nat.ble n m then decN t n p (.sc i o n m t) fun _ l => .rl false t l else .sc i o n m t
      | none => .sc i o n m t)
    | _ => .sc i o n m t)
  | .rl _ t l => .rl false t l
  | .rc _ t l => .rc false t l
  | .rp k e o => .rp k (fun y => wkA (e y)) o
  | x => x
def view (hp : List AO) : Nat → AV → AV
  | 0, x => viewW (fun i o => .ptr i o) hp x
  | d + 1, x => viewW (fun i o => match getAO hp i with
    | .cells l => bif shut (view hp d l) && lenIs l (lenA l) then .rp (lenA l) (fun y => nthD (view hp d l) y) o else .ptr i o
    | _ => .ptr i o) hp x
/-- A callee that does nothing to what is one's own. -/
def viewR (E : Env) (hp : List AO) (g : FuncId) (a : AV) : R :=
  bif shut a then (match E.call g a [] with
    | some r => (match r.lent, r.new with
      | [], [] => bif neat r.res then .call r else .no
      | _, _ => .no)
    | none => .no) else .no
def liveO : AO → Bool
  | .dead => false
  | .void => false
  | _ => true
def live (hp : List AO) : List Nat → Bool
  | [] => true
  | i :: r => liveO (getAO hp i) && live hp r
def callR (E : Env) (hp : List AO) (nx : Nat) (g : FuncId) (a : AV) : R :=
  bif shut a then (match E.call g a [] with
    | some r => (match r.lent, r.new with
      | [], [] => .call r
      | [], nw => bif E.free g then .no else .act 2 r.pre (renA (renI [] nx) r.res) (joinO hp (mapO (renI [] nx) nw))
      | _, _ => .no)
    | none => .no)
  else bif E.free g || !live hp (reach hp 40 (refs a) []) then .no
  else match absA (reach hp 40 (refs a) []) a, lentOf (reach hp 40 (refs a) []) hp (reach hp 40 (refs a) []) with
    | some a', some ls => (match E.call g a' ls with
      | some r => bif Nat.beq (lenO r.lent) (lenO ls) then .act 2 r.pre (renA (renI (reach hp 40 (refs a) []) nx) r.res) (joinO (updAll hp (reach hp 40 (refs a) []) (mapO (renI (reach hp 40 (refs a) []) nx) r.lent)) (mapO (renI (reach hp 40 (refs a) []) nx) r.new)) else .no
      | none => viewR E hp g (view hp 3 a))
    | _, _ => viewR E hp g (view hp 3 a)


/-- The cells of a literal's row. -/
def litCells : Nat → AV → AV → AV
  | 0, _, acc => acc
  | n + 1, z, acc => litCells n z (appA z acc)

/-- Are both bounds one operand? -/
def sameOp : Option Operand → Option Operand → Bool
  | some (.tmp a), some (.tmp b) => Nat.beq a b
  | some (.const (.int _ a)), some (.const (.int _ b)) => decide (a = b)
  | _, _ => false
def zeroOp : Option Operand → Bool
  | some (.const (.int _ a)) => decide (a = 0)
  | _ => false
def evalOp (E : Env) (ρ : Operand → AV) (hp : List AO) (nx : Nat) (op : Op) : R :=
  match op with
  | .move x => .ok (ρ x)
  | .assign x => .ok (ρ x)
  | .box _ x => lift (cellsOf (ρ x)) fun l => .new (.ptr nx 0) (.cells l)
  | .alloc t => match tyOf E.ty t with
    | some i => match i.ze with
      | some z => .new (.ptr nx 0) (.cells (ofValues z.cells.toList))
      | none => .no
    | none => .no
  | .build t parts => match tyOf E.ty t with
    | some i => match i.ze with
      | some z => bif Nat.beq i.kd 1 then lift (fillA (i.pl[·]?) (ofValues z.cells.toList) (parts.toList.map fun p => (p.1, ρ p.2))) fun l => .ok (.agg l)
        else bif Nat.beq i.kd 2 then (match tyOf E.ty i.el with
          | some ie => lift (fillA (fun j => some (j * ie.sz, ie.sz)) (ofValues z.cells.toList) (parts.toList.map fun p => (p.1, ρ p.2))) fun l => .ok (.agg l)
          | none => .no) else .no
      | none => .no
    | none => .no
  | .load t x => match tyOf E.ty t with
    | some i => loadR i hp (ρ x)
    | none => .no
  | .store t x y => match tyOf E.ty t with
    | some i => storeR i hp (ρ x) (ρ y)
    | none => .no
  | .fieldAddr t x f => match tyOf E.ty t with
    | some i => bif Nat.beq i.kd 1 then match i.fl[f]? with
      | some (off, tf) => match tyOf E.ty tf with
        | some j => bif Nat.blt 0 j.sz then addR off (ρ x) else .no
        | none => .no
      | none => .no else .no
    | none => .no
  | .field t x f => match tyOf E.ty t, ρ x with
    | some i, .agg l => bif Nat.beq i.kd 1 then match i.fl[f]? with
      | some (off, tf) => match tyOf E.ty tf with
        | some j => partR j l off
        | none => .no
      | none => .no else .no
    | _, _ => .no
  | .indexAddr t x y => match tyOf E.ty t, ρ y with
    | some i, .v (.int _ z) => match tyOf E.ty i.el with
      | some ie => indexAddrR i.kd i.ar ie.sz z (ρ x)
      | none => .no
    | _, _ => .no
  | .index t x y => match tyOf E.ty t, ρ x, ρ y with
    | some i, .agg l, .v (.int _ z) => bif Nat.beq i.kd 2 then match tyOf E.ty i.el with
      | some ie => match partR ie l (z.toNat * ie.sz) with
        | .ok v => .ob (0 ≤ z ∧ z < i.ar) v
        | _ => .no
      | none => .no else .no
    | _, _, _ => .no
  | .binOp op t x y _ => binR E op t (ρ x) (ρ y)
  | .unOp op _ x => match ρ x with
    | .v a => unV op a
    | _ => .no
  | .extract x i => match ρ x with
    | .tup l => lift (nth l i) .ok
    | _ => .no
  | .nilCheck x => match ρ x with
    | .ptr i o => .ok (.ptr i o)
    | .rp k e o => .ok (.rp k e o)
    | .op j k x o => .ok (.op j k x o)
    | .fn f c => .ok (.fn f c)
    | _ => .no
  | .call c => match c.callee with
    | .value f => match ρ f with
      | .fn g cap => (match f with
        | .func f0 => bif Nat.beq f0 g then callR E hp nx g (appA (c.args.toList.foldr (fun x l => .cons (ρ x) l) .nil) cap) else .no
        | _ => bif E.free g then .no else callR E hp nx g (appA (c.args.toList.foldr (fun x l => .cons (ρ x) l) .nil) cap))
      | _ => .no
    | .builtin b => callB E hp nx b c.argTypes.toList (c.args.toList.foldr (fun x l => .cons (ρ x) l) .nil)
    | _ => .no
  | .convert s t x => match tyOf E.ty s, tyOf E.ty t, ρ x with
    | some _, some i, .v (.int _ z) => (match i.ik with
      | some k => .ok (.v (.int k (k.wrap z)))
      | none => .no)
    | some is, some i, v => convR E hp nx is i v
    | _, _, _ => .no
  | .makeFunc (.func f) first cap => bif first.isEmpty then .ok (.fn f (cap.toList.foldr (fun x l => .cons (ρ x) l) .nil)) else .no
  | .slice t x lo hi mx => match tyOf E.ty t with
    | some i => match tyOf E.ty i.el, Nat.beq i.kd 5 with
      | some ie, _ => sliceR i ie.sz ie.ro (sameOp hi mx) (zeroOp hi) (lo.map ρ) (hi.map ρ) (mx.map ρ) (ρ x)
      | none, true => sliceR i 0 none false false (lo.map ρ) (hi.map ρ) (mx.map ρ) (ρ x)
      | none, false => .no
    | none => .no
  | .makeSlice t x y => match tyOf E.ty t, ρ x, ρ y with
    | some i, .v (.int kx n), .v (.int ky m) => (match tyOf E.ty i.el with
      | some ie => (match ie.ro, ie.ze with
        | some ro, some z => bif Nat.beq i.kd 3 && Nat.blt 0 ie.sz && Nat.ble ie.by_ 100000 then decK ro (ofValues z.cells.toList) .no fun q e =>
            .act 1 (0 ≤ n ∧ n ≤ m ∧ m ≤ 1000000000) (.ow nx (tsz ro) n.toNat) (snoc hp (.row q ro i.el (List.replicate n.toNat e))) else .no
        | _, _ => .no)
      | none => .no)
    | _, _, _ => .no
  | .buildSlice t n parts => match tyOf E.ty t with
    | some i => (match tyOf E.ty i.el with
      | some ie => (match ie.ro, ie.ze with
        | some ro, some z => bif Nat.beq i.kd 3 && Nat.blt 0 ie.sz && Nat.ble n 10000 && Nat.ble ie.sz 1000 then (match fillA (fun j => some (j * ie.sz, ie.sz)) (litCells n (ofValues z.cells.toList) .nil) (parts.toList.map fun p => (p.1, ρ p.2)) with
          | some l => decN ro n (unow hp l) .no fun q xs => (match owsOf l with
            | [] => .new (.ow nx (tsz ro) n) (.row q ro i.el xs)
            | _ => .act 1 True (.ow nx (tsz ro) n) (snoc (frz (owsOf l) hp) (.row q ro i.el xs)))
          | none => .no) else .no
        | _, _ => .no)
      | none => .no)
    | none => .no
  | _ => .no

/-- What the guards of the operands ask, under the guard g. -/
def obs (fr : Fr) (g : Bool) : List Operand → Prop → Prop
  | [], K => K
  | x :: r, K => match raw fr x with
    | .gd b _ => (g = true → b = true) ∧ obs fr g r K
    | _ => obs fr g r K

def dstAt : List Oper → Nat → Option Nat
  | o :: _, 0 => o.dst
  | _ :: r, n + 1 => dstAt r n
  | [], _ => none
/-- A value put into its slot. -/
def putK (N : Nat) (fr : Fr) (d : Option Nat) (v : AV) (K : Fr → Prop) : Prop :=
  match d with
  | some d => bif Nat.blt d N then K ((d, v) :: fr) else False
  | none => K fr
def snocK : List AO → AO → (List AO → Prop) → Prop
  | [], x, K => K [x]
  | o :: r, x, K => snocK r x fun r' => K (o :: r')
def setK : List AO → Nat → AO → (List AO → Prop) → Prop
  | [], _, _, _ => False
  | _ :: r, 0, x, K => K (x :: r)
  | o :: r, n + 1, x, K => setK r n x fun r' => K (o :: r')
def forceO (o : AO) (K : AO → Prop) : Prop :=
  match o with
  | .cells l => force l fun l => K (.cells l)
  | .row q t e l => K (.row q t e l)
  | .fz q t l => K (.fz q t l)
  | .dead => K .dead
  | .void => K .void
def guardV (g : Option Bool) (v : AV) : AV :=
  match g with
  | none => v
  | some b => .gd b v
def under (g : Option Bool) (p : Prop) : Prop :=
  match g with
  | none => p
  | some b => b = true → p

/-- No way on. -/
def Stuck (fr : Fr) (d : Option Nat) : Prop := False
theorem Stuck.out {fr : Fr} {d : Option Nat} {p : Prop} (h : Stuck fr d) : p := h.elim
attribute [irreducible] Stuck

def forceH : List AO → (List AO → Prop) → Prop
  | [], K => K []
  | o :: r, K => forceO o fun o => forceH r fun r => K (o :: r)
/-- An operation under the guard g ('none': it has none), and what is behind it. -/
def stepR (N : Nat) (dr : Bool) (fr : Fr) (hp : List AO) (nx : Nat) (d : Option Nat) (g : Option Bool) (r : R) (K : Post) : Prop :=
  match r with
  | .no => Stuck fr d
  | .ok v => force v fun v => (match g with
    | none => putK N fr d v fun fr => K fr hp nx
    | some b => putK N fr d (.gd b v) fun fr => K fr hp nx)
  | .ob p v => force v fun v => (match g with
    | none => p ∧ putK N fr d v fun fr => K fr hp nx
    | some b => (b = true → p) ∧ putK N fr d (.gd b v) fun fr => K fr hp nx)
  | .call r => force r.res fun v => (match g with
    | none => r.pre ∧ putK N fr d v fun fr => K fr hp nx
    | some b => (b = true → r.pre) ∧ putK N fr d (.gd b v) fun fr => K fr hp nx)
  | .new v o => match g, dr with
    | none, false => forceO o fun o => snocK hp o fun hp => putK N fr d v fun fr => K fr hp (nx + 1)
    | _, _ => Stuck fr d
  | .set v i o => match g, dr with
    | none, false => forceO o fun o => setK hp i o fun hp => putK N fr d v fun fr => K fr hp nx
    | _, _ => Stuck fr d
  | .upd v i o => match g, dr with
    | none, false => forceO o fun o => setK hp i o fun hp => putK N fr d v fun fr => K fr hp nx
    | _, _ => Stuck fr d
  | .act m p v hp' => match g, dr with
    | none, false => force v fun v => forceH hp' fun hp' => p ∧ putK N fr d v fun fr => K fr hp' (lenO hp')
    | _, _ => Stuck fr d

/-- The guard's Bool. -/
def guardOf (fr : Fr) (d : Nat) (want : Bool) (K : Bool → Prop) : Prop :=
  match look fr d with
  | .v (.bool b) => K (b == want)
  | .gd c (.v (.bool b)) => K (c && (b == want))
  | _ => False

/-- 'c && x', 'c || x': the value, out of the two arms' values under the guards that they need. -/
def pickB (g x : Bool) (a b : AV) (K : Bool → Prop) : Prop :=
  match a, b with
  | .v (.bool p), .v (.bool q) => K (bif x then p else q)
  | .gd ca (.v (.bool p)), .v (.bool q) => (g = true → x = true → ca = true) ∧ K (bif x then p else q)
  | .v (.bool p), .gd cb (.v (.bool q)) => (g = true → x = false → cb = true) ∧ K (bif x then p else q)
  | .gd ca (.v (.bool p)), .gd cb (.v (.bool q)) => (g = true → x = true → ca = true) ∧ (g = true → x = false → cb = true) ∧ K (bif x then p else q)
  | _, _ => False

/-- One operation. -/
def pickO (N : Nat) (fr : Fr) (hp : List AO) (nx : Nat) (d : Option Nat) (g : Option Bool) (x : Bool) (a b : AV) (K : Post) : Prop :=
  match g with
  | none => pickB true x a b fun y => putK N fr d (.v (.bool y)) fun fr => K fr hp nx
  | some g => pickB g x a b fun y => putK N fr d (.gd g (.v (.bool y))) fun fr => K fr hp nx
def obsO (fr : Fr) (g : Option Bool) (l : List Operand) (K : Prop) : Prop :=
  match g with
  | none => obs fr true l K
  | some g => obs fr g l K
def stepO (E : Env) (dr : Bool) (fr : Fr) (hp : List AO) (nx : Nat) (o : Oper) (g : Option Bool) (K : Post) : Prop :=
  match o.op with
  | .pick c a b => match opd fr c with
    | .v (.bool x) => obsO fr g [c] (pickO E.N fr hp nx o.dst g x (raw fr a) (raw fr b) K)
    | _ => False
  | op => obsO fr g op.operands.toList (stepR E.N dr fr hp nx o.dst g (evalOp E (opd fr) hp nx op) K)

/-- Does it make memory? Then its guard is to be sure. -/
def makesO (o : Oper) : Bool := match o.op with
  | .alloc _ => true
  | .box _ _ => true
  | .buildSlice _ _ _ => true
  | .makeSlice _ _ _ => true
  | .call c => (match c.callee with | .builtin .append => true | _ => false)
  | _ => false
def stepS (E : Env) (dr : Bool) (fr : Fr) (hp : List AO) (nx : Nat) (o : Oper) (g : Bool) (K : Post) : Prop :=
  bif makesO o then g = true ∧ stepO E dr fr hp nx o none K else stepO E dr fr hp nx o (some g) K
/-- An operation and its guard. -/
def stepG (E : Env) (dr : Bool) (all : List Oper) (o : Oper) (fr : Fr) (hp : List AO) (nx : Nat) (K : Post) : Prop :=
  match o.guard with
  | none => stepO E dr fr hp nx o none K
  | some (j, want) => match dstAt all j with
    | none => False
    | some d => guardOf fr d want fun g => stepS E dr fr hp nx o g K

def runOps (E : Env) (all : List Oper) : List Oper → Fr → List AO → Nat → Post → Prop
  | [], fr, hp, nx, Q => Q fr hp nx
  | o :: rest, fr, hp, nx, Q => stepG E false all o fr hp nx fun fr hp nx => runOps E all rest fr hp nx Q

/-! ### A region that draws its order -/
/-- For each operation, which ones are sure to come ahead of it. -/
def befGo : List (List Nat) → List Oper → List (List Nat)
  | acc, [] => acc
  | acc, o :: r => befGo (acc ++ [((o.after.toList.filter fun e => Region.binds .any e).flatMap fun e => e.on :: acc.getD e.on [])]) r
def bef (ops : List Oper) : List (List Nat) := befGo [] ops
def lookAt (all : List Oper) (o : Oper) : List Nat :=
  (o.op.operands.toList.filterMap fun | .tmp t => some t | _ => none) ++
  (match o.guard with
   | some (g, _) => (dstAt all g).toList
   | none => [])
/-- Operations i and k: k does not write what i reads, or it is sure which one comes first. -/
def pairOk (tab : List (List Nat)) (all : List Oper) (i k : Nat) (oi ok : Oper) : Bool :=
  match ok.dst with
  | none => true
  | some t => (Nat.beq i k || oi.dst != some t) &&
      (!(lookAt all oi).contains t || (Nat.blt k i && (tab.getD i []).contains k) || (Nat.blt i k && (tab.getD k []).contains i))
def drawOk (ops : List Oper) : Bool :=
  let tab := bef ops
  (ops.zipIdx.all fun (oi, i) => (oi.after.toList.all fun e => !Region.binds .any e || Nat.blt e.on i) && ops.zipIdx.all fun (ok, k) => pairOk tab ops i k oi ok)
/-- Does it read or write what is the function's own? -/
def hsen (E : Env) (o : Oper) : Bool :=
  match o.op with
  | .move _ | .assign _ | .extract _ _ | .binOp _ _ _ _ _ | .unOp _ _ _ | .pick _ _ _ | .makeFunc _ _ _ | .fieldAddr _ _ _ | .indexAddr _ _ _ | .field _ _ _ | .index _ _ _ | .nilCheck _ | .slice _ _ _ _ _ | .build _ _ => false
  | .convert s t _ => match tyOf E.ty s, tyOf E.ty t with
    | some i, some j => (bif Nat.beq i.kd 0 then false else true) || (bif Nat.beq j.kd 0 then false else true)
    | _, _ => true
  | .call c => (match c.callee with
    | .value (.func f) => !E.free f
    | .value _ => true
    | .builtin .min => false
    | .builtin .max => false
    | .builtin .len => false
    | _ => true)
  | _ => true
/-- Is it sure of every other such one whether it comes ahead or behind? -/
def barrier (tab : List (List Nat)) (hs : List Bool) (i : Nat) : Bool :=
  hs.getD i false && ((List.range i).all fun j => !hs.getD j false || (tab.getD i []).contains j) && (tab.zipIdx.all fun (l, j) => Nat.ble j i || !hs.getD j false || l.contains i)

/-- An operation that makes an own object. -/
def isNew (o : Oper) : Bool := o.guard.isNone && (match o.op with | .alloc _ => true | .box _ _ => true | .buildSlice _ _ _ => true | _ => false)
/-- Objects that are there from the next sure point on. -/
def flushK : List (Nat × AO) → List AO → (List AO → Prop) → Prop
  | [], hp, K => K hp
  | (i, o) :: r, hp, K => setK hp i o fun hp => flushK r hp K
def voids : Nat → List AO → (List AO → Prop) → Prop
  | 0, hp, K => K hp
  | n + 1, hp, K => snocK hp .void fun hp => voids n hp K
/-- Such an operation, its object at the place sl. -/
def slotO (E : Env) (fr : Fr) (hp : List AO) (sl : Nat) (o : Oper) (K : Fr → AO → Prop) : Prop :=
  match getAO hp sl, evalOp E (opd fr) hp sl o.op with
  | .void, .new v ob => obs fr true o.op.operands.toList (force v fun v => forceO ob fun ob => putK E.N fr o.dst v fun fr => K fr ob)
  | _, _ => Stuck fr o.dst
def runDraw (E : Env) (all : List Oper) (tab : List (List Nat)) (hs : List Bool) : Nat → List Oper → Nat → List (Nat × AO) → Fr → List AO → Nat → Post → Prop
  | _, [], _, pd, fr, hp, nx, Q => flushK pd hp fun hp => Q fr hp nx
  | i, o :: rest, sl, pd, fr, hp, nx, Q => bif barrier tab hs i then flushK pd hp fun hp => stepG E false all o fr hp nx fun fr hp nx => runDraw E all tab hs (i + 1) rest sl [] fr hp nx Q
    else bif isNew o then slotO E fr hp sl o fun fr ob => runDraw E all tab hs (i + 1) rest (sl + 1) (pd ++ [(sl, ob)]) fr hp nx Q
    else stepG E true all o fr hp nx fun fr hp nx => runDraw E all tab hs (i + 1) rest sl pd fr hp nx Q
/-- How many such operations' places are not sure? -/
def news (tab : List (List Nat)) (hs : List Bool) : Nat → List Oper → Nat
  | _, [] => 0
  | i, o :: r => bif isNew o && !barrier tab hs i then news tab hs (i + 1) r + 1 else news tab hs (i + 1) r
def runDraw0 (E : Env) (all : List Oper) (tab : List (List Nat)) (hs : List Bool) (ops : List Oper) (fr : Fr) (hp : List AO) (nx : Nat) (Q : Post) : Prop :=
  voids (news tab hs 0 ops) hp fun hp => runDraw E all tab hs 0 ops nx [] fr hp (nx + news tab hs 0 ops) Q

end Go.Proofs.Ythlkhjfilfdpiaa.Eng
