/- ENGINE, 1: abstract values and the run of a function's code over them, as a proposition. Nothing here names a program. -/
import Derived.Handy
import Derived.Still
import Derived.Deep.Draws
namespace Go.Proofs.Ythlkhjfilfdpiaa.Eng
set_option linter.unusedVariables false
set_option linter.unusedSimpArgs false
open Go

/-- What is known of a value. Lists (cells of a struct, arguments, results) are 'cons', 'nil'. -/
inductive AV where
  | u                                   -- nothing
  | v (x : Value)                       -- it is x
  | nil
  | cons (h t : AV)
  | agg (l : AV)
  | tup (l : AV)
  | fn (f : FuncId) (c : AV)            -- a function, with what it has captured
  | gd (b : Bool) (x : AV)              -- x, if b
  | ptr (i o : Nat)                     -- the address of cell o of own object i
  | sc (i o n m : Nat)                  -- a slice over cells of own object i
  | rd (k n : Nat) (g : Nat → Nat → AV) -- a slice that is only read: n elements of k cells
  | rp (k : Nat) (e : Nat → AV) (o : Nat) -- the address of cell o of k cells that are only read
  | ow (i : Nat)                        -- the slice that is own row i
  | op (i k x o : Nat)                  -- the address of cell o of element x of own row i

/-- Own objects. -/
inductive AO where
  | cells (l : AV)
  | row (e k n : Nat) (g : Nat → Nat → AV)
  | fz (k n : Nat) (g : Nat → Nat → AV)
  | dead
  | void                                  -- not yet there

abbrev Fr := List (Nat × AV)
abbrev Post := Fr → List AO → Nat → Prop

/-- A type, as far as the run asks. -/
structure TI where
  kd : Nat := 0              -- 1: a struct, 2: an array, 3: a slice, 5: a string
  sz : Nat := 1
  ag : Bool := false
  fl : List (Nat × TypeId) := []
  pl : List (Nat × Nat) := []   -- a struct's fields: offset and cells
  ar : Nat := 0
  el : TypeId := 0
  ze : Option Value := none
  eq : Option (List Nat) := none   -- equal where the cells are: the cells' kinds
  ik : Option IntKind := none      -- a number's kind

structure CR where
  pre : Prop
  res : AV

structure Env where
  ty : List (TypeId × TI)
  N : Nat
  call : FuncId → AV → Option CR

def tyOf : List (TypeId × TI) → TypeId → Option TI
  | [], _ => none
  | (t, i) :: r, x => bif Nat.beq t x then some i else tyOf r x

def look : Fr → Nat → AV
  | [], _ => .u
  | (i, v) :: r, j => bif Nat.beq i j then v else look r j

/-- What an operand is, read under its guard. -/
def strip : AV → AV
  | .gd _ x => x
  | x => x
def raw (fr : Fr) : Operand → AV
  | .tmp t => look fr t
  | .const v => .v v
  | .func f => .fn f .nil
  | .global _ => .u
def opd (fr : Fr) (x : Operand) : AV := strip (raw fr x)

/-- A value brought to its outer form. -/
def forceV (x : Value) (K : Value → Prop) : Prop :=
  match x with
  | .bool b => K (.bool b)
  | .int k n => K (.int k n)
  | .pointer a => K (.pointer a)
  | .string s => K (.string s)
  | .slice a n m => K (.slice a n m)
  | .map r => K (.map r)
  | .nilFunc => K .nilFunc
  | .nilIface => K .nilIface
  | _ => False
def force : AV → (AV → Prop) → Prop
  | .u, K => K .u
  | .v x, K => forceV x fun x => K (.v x)
  | .nil, K => K .nil
  | .cons h t, K => force h fun h => force t fun t => K (.cons h t)
  | .agg l, K => force l fun l => K (.agg l)
  | .tup l, K => force l fun l => K (.tup l)
  | .fn f c, K => force c fun c => K (.fn f c)
  | .gd b x, K => force x fun x => K (.gd b x)
  | .ptr i o, K => K (.ptr i o)
  | .sc i o n m, K => K (.sc i o n m)
  | .rd k n g, K => K (.rd k n g)
  | .rp k e o, K => K (.rp k e o)
  | .ow i, K => K (.ow i)
  | .op i k x o, K => K (.op i k x o)

/-! ### Lists of cells -/
def nth : AV → Nat → Option AV
  | .cons h _, 0 => some h
  | .cons _ t, n + 1 => nth t n
  | _, _ => none
/-- n cells from o on -/
def tk : AV → Nat → Option AV
  | _, 0 => some .nil
  | .cons h t, n + 1 => (tk t n).map (.cons h)
  | _, _ + 1 => none
def part : AV → Nat → Nat → Option AV
  | l, 0, n => tk l n
  | .cons _ t, o + 1, n => part t o n
  | _, _ + 1, _ => none
/-- cells over others, from the head on -/
def over : AV → AV → Option AV
  | l, .nil => some l
  | .cons _ t, .cons h r => (over t r).map (.cons h)
  | _, _ => none
/-- cells over others, from o on -/
def setc : AV → Nat → AV → Option AV
  | l, 0, x => over l x
  | .cons h t, o + 1, x => (setc t o x).map (.cons h)
  | _, _ + 1, _ => none
def ofValues : List Value → AV
  | [] => .nil
  | x :: r => .cons (.v x) (ofValues r)
/-- is it one cell? are all of a list? -/
def one : AV → Bool
  | .v (.agg _) => false
  | .v (.tuple _) => false
  | .v _ => true
  | .fn _ _ => true
  | .ptr _ _ => true
  | .rd _ _ _ => true
  | .ow _ => true
  | .sc _ _ _ _ => true
  | _ => false
def ones : AV → Bool
  | .nil => true
  | .cons h t => one h && ones t
  | _ => false
def lenIs : AV → Nat → Bool
  | .nil, 0 => true
  | .cons _ t, n + 1 => lenIs t n
  | _, _ => false
/-- the cells of a value -/
def cellsOf : AV → Option AV
  | .agg l => bif ones l then some l else none
  | .v x => bif one (.v x) then some (.cons (.v x) .nil) else none
  | .fn f c => some (.cons (.fn f c) .nil)
  | .ptr i o => some (.cons (.ptr i o) .nil)
  | .rd k n g => some (.cons (.rd k n g) .nil)
  | .ow i => some (.cons (.ow i) .nil)
  | .sc i o n m => some (.cons (.sc i o n m) .nil)
  | _ => none
/-- k cells of a function of places -/
def ofFn (e : Nat → AV) : Nat → Nat → AV
  | _, 0 => .nil
  | o, n + 1 => .cons (e o) (ofFn e (o + 1) n)

def setAO : List AO → Nat → AO → List AO
  | [], _, _ => []
  | _ :: r, 0, x => x :: r
  | o :: r, n + 1, x => o :: setAO r n x
def getAO : List AO → Nat → AO
  | [], _ => .dead
  | o :: _, 0 => o
  | _ :: r, n + 1 => getAO r n

/-- What an operation gives. -/
inductive R where
  | no
  | ok (v : AV)
  | ob (p : Prop) (v : AV)
  | new (v : AV) (o : AO)                 -- one own object more
  | set (v : AV) (i : Nat) (o : AO)       -- an own object turned
  | upd (v : AV) (i : Nat) (o : AO)       -- so, with a value
  | call (r : CR)

/-! ### Operators -/
def same (k l : IntKind) (x : Value) : R := if k = l then .ok (.v x) else .no
def binV (op : BinOp) (x y : Value) : R :=
  match op, x, y with
  | .add, .int k a, .int l b => same k l (.int k (k.wrap (a + b)))
  | .sub, .int k a, .int l b => same k l (.int k (k.wrap (a - b)))
  | .mul, .int k a, .int l b => same k l (.int k (k.wrap (a * b)))
  | .quo, .int k a, .int l b => if k = l then .ob (b ≠ 0) (.v (.int k (k.wrap (a.tdiv b)))) else .no
  | .rem, .int k a, .int l b => if k = l then .ob (b ≠ 0) (.v (.int k (a.tmod b))) else .no
  | .shl, .int k a, .int _ b => .ob (0 ≤ b) (.v (.int k (k.wrap (a * 2 ^ (min b.toNat k.bits)))))
  | .shr, .int k a, .int _ b => .ob (0 ≤ b) (.v (.int k (a.fdiv (2 ^ (min b.toNat k.bits)))))
  | .and, .int k a, .int l b => same k l (.int k (k.wrap (BitVec.ofInt k.bits a &&& BitVec.ofInt k.bits b).toNat))
  | .or, .int k a, .int l b => same k l (.int k (k.wrap (BitVec.ofInt k.bits a ||| BitVec.ofInt k.bits b).toNat))
  | .xor, .int k a, .int l b => same k l (.int k (k.wrap (BitVec.ofInt k.bits a ^^^ BitVec.ofInt k.bits b).toNat))
  | .lss, .int k a, .int l b => same k l (.bool (decide (a < b)))
  | .leq, .int k a, .int l b => same k l (.bool (decide (a ≤ b)))
  | .gtr, .int k a, .int l b => same k l (.bool (decide (a > b)))
  | .geq, .int k a, .int l b => same k l (.bool (decide (a ≥ b)))
  | .eql, .int k a, .int l b => same k l (.bool (a == b))
  | .neq, .int k a, .int l b => same k l (.bool (a != b))
  | _, _, _ => .no
def unV (op : UnOp) (x : Value) : R :=
  match op, x with
  | .not, .bool b => .ok (.v (.bool (!b)))
  | .neg, .int k n => .ok (.v (.int k (k.wrap (0 - n))))
  | _, _ => .no

/-! ### Operations -/
def lift (x : Option AV) (f : AV → R) : R := match x with | some v => f v | none => .no
/-- parts over cells, each at its place -/
def fillA (pl : Nat → Option (Nat × Nat)) : AV → List (Nat × AV) → Option AV
  | l, [] => some l
  | l, (i, x) :: r =>
    match pl i, cellsOf x with
    | some (off, sz), some c => bif lenIs c sz then (match setc l off c with | some l' => fillA pl l' r | none => none) else none
    | _, _ => none

def loadR (i : TI) (hp : List AO) : AV → R
  | .ptr j o => match getAO hp j with
    | .cells l => bif i.ag then lift (part l o i.sz) fun c => .ok (.agg c) else lift ((part l o 1).bind (nth · 0)) .ok
    | _ => .no
  | .rp k e o => bif i.ag then (bif Nat.ble (o + i.sz) k then .ok (.agg (ofFn e o i.sz)) else .no) else (bif Nat.blt o k then .ok (e o) else .no)
  | _ => .no
def storeR (i : TI) (hp : List AO) (x y : AV) : R :=
  match x, cellsOf y with
  | .ptr j o, some c => bif lenIs c i.sz then (match getAO hp j with
    | .cells l => lift (setc l o c) fun l' => .set .u j (.cells l')
    | _ => .no) else .no
  | _, _ => .no
def addR (off : Nat) : AV → R
  | .ptr j o => .ok (.ptr j (o + off))
  | .rp k e o => .ok (.rp k e (o + off))
  | _ => .no
def indexAddrR (kd n k : Nat) (z : Int) : AV → R
  | .ptr j o => bif Nat.beq kd 2 then .ob (0 ≤ z ∧ z < n) (.ptr j (o + z.toNat * k)) else .no
  | .rd k' m g => bif Nat.beq kd 3 && Nat.beq k' k then .ob (0 ≤ z ∧ z < m) (.rp k (g z.toNat) 0) else .no
  | _ => .no
def partR (i : TI) (l : AV) (off : Nat) : R :=
  bif i.ag then lift (part l off i.sz) fun c => .ok (.agg c) else lift ((part l off 1).bind (nth · 0)) .ok

/-- Equal? -/
def leafQ : Nat → AV → AV → Option Bool
  | 0, .v (.int k a), .v (.int l b) => if k = l then some (a == b) else none
  | 1, .v (.bool a), .v (.bool b) => some (a == b)
  | 2, .v (.string a), .v (.string b) => some (a.toList == b.toList)
  | _, _, _ => none
def eqQ : List Nat → AV → AV → Option Bool
  | [], .nil, .nil => some true
  | t :: ts, .cons a x, .cons b y => match leafQ t a b, eqQ ts x y with
    | some p, some q => some (p && q)
    | _, _ => none
  | _, _, _ => none
def eqR (op : BinOp) (b : Option Bool) : R :=
  match op, b with
  | .eql, some b => .ok (.v (.bool b))
  | .neq, some b => .ok (.v (.bool (!b)))
  | _, _ => .no
def binR (E : Env) (op : BinOp) (t : TypeId) : AV → AV → R
  | .v (.bool a), .v (.bool b) => match tyOf E.ty t with
    | some i => (match i.eq, i.ag with | some [1], false => eqR op (some (a == b)) | _, _ => .no)
    | none => .no
  | .v a, .v b => binV op a b
  | .agg l, .agg m => match tyOf E.ty t with
    | some i => (match i.eq with | some ks => bif i.ag then eqR op (eqQ ks l m) else .no | none => .no)
    | none => .no
  | _, _ => .no

/-- A bound of a slice. -/
def bndV : AV → Option Int
  | .v (.int _ z) => some z
  | _ => none
def bnd (d : Int) : Option AV → Option Int
  | none => some d
  | some v => bndV v
def sliceR (i : TI) (k : Nat) (lo hi mx : Option AV) : AV → R
  | .ptr j o => bif Nat.beq i.kd 2 && (mx.isNone || hi.isSome) then match bnd 0 lo, bnd i.ar hi, bnd i.ar mx with
    | some l, some h, some m => .ob (0 ≤ l ∧ l ≤ h ∧ h ≤ m ∧ m ≤ i.ar) (.sc j (bif Nat.beq m.toNat l.toNat then o else o + l.toNat * k) (h.toNat - l.toNat) (m.toNat - l.toNat))
    | _, _, _ => .no else .no
  | .sc j o n c => bif Nat.beq i.kd 3 && (mx.isNone || hi.isSome) then match bnd 0 lo, bnd n hi, bnd c mx with
    | some l, some h, some m => .ob (0 ≤ l ∧ l ≤ h ∧ h ≤ m ∧ m ≤ c) (.sc j (bif Nat.beq m.toNat l.toNat then o else o + l.toNat * k) (h.toNat - l.toNat) (m.toNat - l.toNat))
    | _, _, _ => .no else .no
  | .rd k' n g => bif Nat.beq i.kd 3 && Nat.beq k' k && mx.isNone then match bnd 0 lo, bnd n hi with
    | some l, some h => .ob (0 ≤ l ∧ l ≤ h ∧ h ≤ n) (.rd k' (h.toNat - l.toNat) fun x y => g (l.toNat + x) y)
    | _, _ => .no else .no
  | .v (.string s) => bif Nat.beq i.kd 5 && mx.isNone then match bnd 0 lo, bnd s.size hi with
    | some l, some h => .ob (0 ≤ l ∧ l ≤ h ∧ h ≤ s.size) (.v (.string (s.extract l.toNat h.toNat)))
    | _, _ => .no else .no
  | _ => .no
def setR (j : Nat) (l : AV) (o : Nat) (c : AV) (v : AV) : R :=
  bif ones c then (match setc l o c with | some l' => .upd v j (.cells l') | none => .no) else .no
def copyR (hp : List AO) (k : Nat) : AV → AV → R
  | .sc j o n _, .sc i o' n' _ => match getAO hp i, getAO hp j with
    | .cells li, .cells lj => (match part li o' (Nat.min n' n * k) with
      | some c => setR j lj o c (.v (.int .i64 (Nat.min n' n)))
      | none => .no)
    | _, _ => .no
  | .sc j o n _, .rd k' n' g => bif Nat.beq k' 1 && Nat.beq k 1 then (match getAO hp j with
    | .cells lj => setR j lj o (ofFn (fun p => g p 0) 0 (Nat.min n' n)) (.v (.int .i64 (Nat.min n' n)))
    | _ => .no) else .no
  | _, _ => .no
def lenR (i : TI) : AV → R
  | .rd _ n _ => bif Nat.beq i.kd 3 then .ok (.v (.int .i64 n)) else .no
  | .sc _ _ n _ => bif Nat.beq i.kd 3 then .ok (.v (.int .i64 n)) else .no
  | .v (.slice _ n _) => bif Nat.beq i.kd 3 then .ok (.v (.int .i64 n)) else .no
  | .v (.string s) => bif Nat.beq i.kd 5 then .ok (.v (.int .i64 s.size)) else .no
  | .agg _ => bif Nat.beq i.kd 2 then .ok (.v (.int .i64 i.ar)) else .no
  | _ => .no
/-- The arguments, and what is captured behind them. -/
def appA : AV → AV → AV
  | .cons a l, c => .cons a (appA l c)
  | .nil, c => c
  | x, _ => x
def callB (E : Env) (hp : List AO) (b : Builtin) (ts : List TypeId) (l : AV) : R :=
  match b, ts, l with
  | .min, _, .cons (.v (.int k x)) (.cons (.v (.int _ y)) .nil) => .ok (.v (.int k (if y < x then y else x)))
  | .max, _, .cons (.v (.int k x)) (.cons (.v (.int _ y)) .nil) => .ok (.v (.int k (if y > x then y else x)))
  | .len, t :: _, .cons x .nil => (match tyOf E.ty t with
    | some i => lenR i x
    | none => .no)
  | .copy, t :: _, .cons x (.cons y .nil) => (match tyOf E.ty t with
    | some i => (match tyOf E.ty i.el with
      | some ie => bif Nat.beq i.kd 3 then copyR hp ie.sz x y else .no
      | none => .no)
    | none => .no)
  | _, _, _ => .no

def evalOp (E : Env) (ρ : Operand → AV) (hp : List AO) (nx : Nat) (op : Op) : R :=
  match op with
  | .move x => .ok (ρ x)
  | .assign x => .ok (ρ x)
  | .box _ x => lift (cellsOf (ρ x)) fun l => .new (.ptr nx 0) (.cells l)
  | .alloc t => match tyOf E.ty t with
    | some i => match i.ze with
      | some z => .new (.ptr nx 0) (.cells (ofValues z.cells.toList))
      | none => .no
    | none => .no
  | .build t parts => match tyOf E.ty t with
    | some i => match i.ze with
      | some z => bif Nat.beq i.kd 1 then lift (fillA (i.pl[·]?) (ofValues z.cells.toList) (parts.toList.map fun p => (p.1, ρ p.2))) fun l => .ok (.agg l)
        else bif Nat.beq i.kd 2 then (match tyOf E.ty i.el with
          | some ie => lift (fillA (fun j => some (j * ie.sz, ie.sz)) (ofValues z.cells.toList) (parts.toList.map fun p => (p.1, ρ p.2))) fun l => .ok (.agg l)
          | none => .no) else .no
      | none => .no
    | none => .no
  | .load t x => match tyOf E.ty t with
    | some i => loadR i hp (ρ x)
    | none => .no
  | .store t x y => match tyOf E.ty t with
    | some i => storeR i hp (ρ x) (ρ y)
    | none => .no
  | .fieldAddr t x f => match tyOf E.ty t with
    | some i => bif Nat.beq i.kd 1 then match i.fl[f]? with
      | some (off, tf) => match tyOf E.ty tf with
        | some j => bif Nat.blt 0 j.sz then addR off (ρ x) else .no
        | none => .no
      | none => .no else .no
    | none => .no
  | .field t x f => match tyOf E.ty t, ρ x with
    | some i, .agg l => bif Nat.beq i.kd 1 then match i.fl[f]? with
      | some (off, tf) => match tyOf E.ty tf with
        | some j => partR j l off
        | none => .no
      | none => .no else .no
    | _, _ => .no
  | .indexAddr t x y => match tyOf E.ty t, ρ y with
    | some i, .v (.int _ z) => match tyOf E.ty i.el with
      | some ie => indexAddrR i.kd i.ar ie.sz z (ρ x)
      | none => .no
    | _, _ => .no
  | .index t x y => match tyOf E.ty t, ρ x, ρ y with
    | some i, .agg l, .v (.int _ z) => bif Nat.beq i.kd 2 then match tyOf E.ty i.el with
      | some ie => match partR ie l (z.toNat * ie.sz) with
        | .ok v => .ob (0 ≤ z ∧ z < i.ar) v
        | _ => .no
      | none => .no else .no
    | _, _, _ => .no
  | .binOp op t x y _ => binR E op t (ρ x) (ρ y)
  | .unOp op _ x => match ρ x with
    | .v a => unV op a
    | _ => .no
  | .extract x i => match ρ x with
    | .tup l => lift (nth l i) .ok
    | _ => .no
  | .nilCheck x => match ρ x with
    | .ptr i o => .ok (.ptr i o)
    | .fn f c => .ok (.fn f c)
    | _ => .no
  | .call c => match c.callee with
    | .value f => match ρ f with
      | .fn g cap => match E.call g (appA (c.args.toList.foldr (fun x l => .cons (ρ x) l) .nil) cap) with
        | some r => .call r
        | none => .no
      | _ => .no
    | .builtin b => callB E hp b c.argTypes.toList (c.args.toList.foldr (fun x l => .cons (ρ x) l) .nil)
    | _ => .no
  | .convert s t x => match tyOf E.ty s, tyOf E.ty t, ρ x with
    | some _, some i, .v (.int _ z) => (match i.ik with
      | some k => .ok (.v (.int k (k.wrap z)))
      | none => .no)
    | _, _, _ => .no
  | .makeFunc (.func f) first cap => bif first.isEmpty then .ok (.fn f (cap.toList.foldr (fun x l => .cons (ρ x) l) .nil)) else .no
  | .slice t x lo hi mx => match tyOf E.ty t with
    | some i => match tyOf E.ty i.el, Nat.beq i.kd 5 with
      | some ie, _ => sliceR i ie.sz (lo.map ρ) (hi.map ρ) (mx.map ρ) (ρ x)
      | none, true => sliceR i 0 (lo.map ρ) (hi.map ρ) (mx.map ρ) (ρ x)
      | none, false => .no
    | none => .no
  | _ => .no

/-- What the guards of the operands ask, under the guard g. -/
def obs (fr : Fr) (g : Bool) : List Operand → Prop → Prop
  | [], K => K
  | x :: r, K => match raw fr x with
    | .gd b _ => (g = true → b = true) ∧ obs fr g r K
    | _ => obs fr g r K

def dstAt : List Oper → Nat → Option Nat
  | o :: _, 0 => o.dst
  | _ :: r, n + 1 => dstAt r n
  | [], _ => none
/-- A value put into its slot. -/
def putK (N : Nat) (fr : Fr) (d : Option Nat) (v : AV) (K : Fr → Prop) : Prop :=
  match d with
  | some d => bif Nat.blt d N then K ((d, v) :: fr) else False
  | none => K fr
def snocK : List AO → AO → (List AO → Prop) → Prop
  | [], x, K => K [x]
  | o :: r, x, K => snocK r x fun r' => K (o :: r')
def setK : List AO → Nat → AO → (List AO → Prop) → Prop
  | [], _, _, _ => False
  | _ :: r, 0, x, K => K (x :: r)
  | o :: r, n + 1, x, K => setK r n x fun r' => K (o :: r')
def forceO (o : AO) (K : AO → Prop) : Prop :=
  match o with
  | .cells l => force l fun l => K (.cells l)
  | .row e k n g => K (.row e k n g)
  | .fz k n g => K (.fz k n g)
  | .dead => K .dead
  | .void => K .void
def guardV (g : Option Bool) (v : AV) : AV :=
  match g with
  | none => v
  | some b => .gd b v
def under (g : Option Bool) (p : Prop) : Prop :=
  match g with
  | none => p
  | some b => b = true → p

/-- No way on. -/
def Stuck (fr : Fr) (d : Option Nat) : Prop := False
theorem Stuck.out {fr : Fr} {d : Option Nat} {p : Prop} (h : Stuck fr d) : p := h.elim
attribute [irreducible] Stuck

/-- An operation under the guard g ('none': it has none), and what is behind it. -/
def stepR (N : Nat) (dr : Bool) (fr : Fr) (hp : List AO) (nx : Nat) (d : Option Nat) (g : Option Bool) (r : R) (K : Post) : Prop :=
  match r with
  | .no => Stuck fr d
  | .ok v => force v fun v => (match g with
    | none => putK N fr d v fun fr => K fr hp nx
    | some b => putK N fr d (.gd b v) fun fr => K fr hp nx)
  | .ob p v => force v fun v => (match g with
    | none => p ∧ putK N fr d v fun fr => K fr hp nx
    | some b => (b = true → p) ∧ putK N fr d (.gd b v) fun fr => K fr hp nx)
  | .call r => force r.res fun v => (match g with
    | none => r.pre ∧ putK N fr d v fun fr => K fr hp nx
    | some b => (b = true → r.pre) ∧ putK N fr d (.gd b v) fun fr => K fr hp nx)
  | .new v o => match g, dr with
    | none, false => forceO o fun o => snocK hp o fun hp => putK N fr d v fun fr => K fr hp (nx + 1)
    | _, _ => Stuck fr d
  | .set v i o => match g, dr with
    | none, false => forceO o fun o => setK hp i o fun hp => putK N fr d v fun fr => K fr hp nx
    | _, _ => Stuck fr d
  | .upd v i o => match g, dr with
    | none, false => forceO o fun o => setK hp i o fun hp => putK N fr d v fun fr => K fr hp nx
    | _, _ => Stuck fr d

/-- The guard's Bool. -/
def guardOf (fr : Fr) (d : Nat) (want : Bool) (K : Bool → Prop) : Prop :=
  match look fr d with
  | .v (.bool b) => K (b == want)
  | .gd c (.v (.bool b)) => K (c && (b == want))
  | _ => False

/-- 'c && x', 'c || x': the value, out of the two arms' values under the guards that they need. -/
def pickB (g x : Bool) (a b : AV) (K : Bool → Prop) : Prop :=
  match a, b with
  | .v (.bool p), .v (.bool q) => K (bif x then p else q)
  | .gd ca (.v (.bool p)), .v (.bool q) => (g = true → x = true → ca = true) ∧ K (bif x then p else q)
  | .v (.bool p), .gd cb (.v (.bool q)) => (g = true → x = false → cb = true) ∧ K (bif x then p else q)
  | .gd ca (.v (.bool p)), .gd cb (.v (.bool q)) => (g = true → x = true → ca = true) ∧ (g = true → x = false → cb = true) ∧ K (bif x then p else q)
  | _, _ => False

/-- One operation. -/
def pickO (N : Nat) (fr : Fr) (hp : List AO) (nx : Nat) (d : Option Nat) (g : Option Bool) (x : Bool) (a b : AV) (K : Post) : Prop :=
  match g with
  | none => pickB true x a b fun y => putK N fr d (.v (.bool y)) fun fr => K fr hp nx
  | some g => pickB g x a b fun y => putK N fr d (.gd g (.v (.bool y))) fun fr => K fr hp nx
def obsO (fr : Fr) (g : Option Bool) (l : List Operand) (K : Prop) : Prop :=
  match g with
  | none => obs fr true l K
  | some g => obs fr g l K
def stepO (E : Env) (dr : Bool) (fr : Fr) (hp : List AO) (nx : Nat) (o : Oper) (g : Option Bool) (K : Post) : Prop :=
  match o.op with
  | .pick c a b => match opd fr c with
    | .v (.bool x) => obsO fr g [c] (pickO E.N fr hp nx o.dst g x (raw fr a) (raw fr b) K)
    | _ => False
  | op => obsO fr g op.operands.toList (stepR E.N dr fr hp nx o.dst g (evalOp E (opd fr) hp nx op) K)

/-- An operation and its guard. -/
def stepG (E : Env) (dr : Bool) (all : List Oper) (o : Oper) (fr : Fr) (hp : List AO) (nx : Nat) (K : Post) : Prop :=
  match o.guard with
  | none => stepO E dr fr hp nx o none K
  | some (j, want) => match dstAt all j with
    | none => False
    | some d => guardOf fr d want fun g => stepO E dr fr hp nx o (some g) K

def runOps (E : Env) (all : List Oper) : List Oper → Fr → List AO → Nat → Post → Prop
  | [], fr, hp, nx, Q => Q fr hp nx
  | o :: rest, fr, hp, nx, Q => stepG E false all o fr hp nx fun fr hp nx => runOps E all rest fr hp nx Q

/-! ### A region that draws its order -/
/-- For each operation, which ones are sure to come ahead of it. -/
def befGo : List (List Nat) → List Oper → List (List Nat)
  | acc, [] => acc
  | acc, o :: r => befGo (acc ++ [((o.after.toList.filter fun e => Region.binds .any e).flatMap fun e => e.on :: acc.getD e.on [])]) r
def bef (ops : List Oper) : List (List Nat) := befGo [] ops
def lookAt (all : List Oper) (o : Oper) : List Nat :=
  (o.op.operands.toList.filterMap fun | .tmp t => some t | _ => none) ++
  (match o.guard with
   | some (g, _) => (dstAt all g).toList
   | none => [])
/-- Operations i and k: k does not write what i reads, or it is sure which one comes first. -/
def pairOk (tab : List (List Nat)) (all : List Oper) (i k : Nat) (oi ok : Oper) : Bool :=
  match ok.dst with
  | none => true
  | some t => (Nat.beq i k || oi.dst != some t) &&
      (!(lookAt all oi).contains t || (Nat.blt k i && (tab.getD i []).contains k) || (Nat.blt i k && (tab.getD k []).contains i))
def drawOk (ops : List Oper) : Bool :=
  let tab := bef ops
  (ops.zipIdx.all fun (oi, i) => (oi.after.toList.all fun e => !Region.binds .any e || Nat.blt e.on i) && ops.zipIdx.all fun (ok, k) => pairOk tab ops i k oi ok)
/-- Does it read or write what is the function's own? -/
def hsen (o : Oper) : Bool :=
  match o.op with
  | .move _ | .assign _ | .extract _ _ | .binOp _ _ _ _ _ | .unOp _ _ _ | .pick _ _ _ | .convert _ _ _ | .makeFunc _ _ _ | .fieldAddr _ _ _ | .indexAddr _ _ _ | .field _ _ _ | .index _ _ _ | .nilCheck _ | .slice _ _ _ _ _ | .build _ _ => false
  | .call c => (match c.callee with
    | .value _ => false
    | .builtin .min => false
    | .builtin .max => false
    | .builtin .len => false
    | _ => true)
  | _ => true
/-- Is it sure of every other such one whether it comes ahead or behind? -/
def barrier (tab : List (List Nat)) (hs : List Bool) (i : Nat) : Bool :=
  hs.getD i false && ((List.range i).all fun j => !hs.getD j false || (tab.getD i []).contains j) && (tab.zipIdx.all fun (l, j) => Nat.ble j i || !hs.getD j false || l.contains i)

/-- An operation that makes an own object. -/
def isNew (o : Oper) : Bool := o.guard.isNone && (match o.op with | .alloc _ => true | .box _ _ => true | _ => false)
/-- Objects that are there from the next sure point on. -/
def flushK : List (Nat × AO) → List AO → (List AO → Prop) → Prop
  | [], hp, K => K hp
  | (i, o) :: r, hp, K => setK hp i o fun hp => flushK r hp K
def voids : Nat → List AO → (List AO → Prop) → Prop
  | 0, hp, K => K hp
  | n + 1, hp, K => snocK hp .void fun hp => voids n hp K
/-- Such an operation, its object at the place sl. -/
def slotO (E : Env) (fr : Fr) (hp : List AO) (sl : Nat) (o : Oper) (K : Fr → AO → Prop) : Prop :=
  match getAO hp sl, evalOp E (opd fr) hp sl o.op with
  | .void, .new v ob => obs fr true o.op.operands.toList (force v fun v => forceO ob fun ob => putK E.N fr o.dst v fun fr => K fr ob)
  | _, _ => Stuck fr o.dst
def runDraw (E : Env) (all : List Oper) (tab : List (List Nat)) (hs : List Bool) : Nat → List Oper → Nat → List (Nat × AO) → Fr → List AO → Nat → Post → Prop
  | _, [], _, pd, fr, hp, nx, Q => flushK pd hp fun hp => Q fr hp nx
  | i, o :: rest, sl, pd, fr, hp, nx, Q => bif barrier tab hs i then flushK pd hp fun hp => stepG E false all o fr hp nx fun fr hp nx => runDraw E all tab hs (i + 1) rest sl [] fr hp nx Q
    else bif isNew o then slotO E fr hp sl o fun fr ob => runDraw E all tab hs (i + 1) rest (sl + 1) (pd ++ [(sl, ob)]) fr hp nx Q
    else stepG E true all o fr hp nx fun fr hp nx => runDraw E all tab hs (i + 1) rest sl pd fr hp nx Q
/-- How many such operations' places are not sure? -/
def news (tab : List (List Nat)) (hs : List Bool) : Nat → List Oper → Nat
  | _, [] => 0
  | i, o :: r => bif isNew o && !barrier tab hs i then news tab hs (i + 1) r + 1 else news tab hs (i + 1) r
def runDraw0 (E : Env) (all : List Oper) (tab : List (List Nat)) (hs : List Bool) (ops : List Oper) (fr : Fr) (hp : List AO) (nx : Nat) (Q : Post) : Prop :=
  voids (news tab hs 0 ops) hp fun hp => runDraw E all tab hs 0 ops nx [] fr hp (nx + news tab hs 0 ops) Q

inductive Ex where
  | normal
  | ret
  | exit (n : Nat)

/-- What is said of the second frame is said of the first. -/
def weakF (fr fr' : Fr) : Prop := ∀ i, look fr' i = .u ∨ look fr' i = look fr i

/-- A loop: a relation that bears a number, which each round lowers. -/
def loopP (R : Fr → List AO → Nat → (Ex → Post) → Prop) (fr : Fr) (hp : List AO) (nx : Nat) (Q : Ex → Post) : Prop :=
  ∃ I : Nat → Post, (∃ n fr', weakF fr fr' ∧ I n fr' hp nx) ∧
    ∀ n fr hp nx, I n fr hp nx → R fr hp nx fun e fr hp nx => match e with
      | .normal => ∃ m fr', m < n ∧ weakF fr fr' ∧ I m fr' hp nx
      | .ret => Q .ret fr hp nx
      | .exit k => Q (.exit k) fr hp nx
attribute [irreducible] loopP

/-- Two ways. -/
def fork (x : Bool) (p q : Prop) : Prop := (x = true → p) ∧ (x = false → q)
theorem fork_i {x : Bool} {p q : Prop} (h1 : x = true → p) (h2 : x = false → q) : fork x p q := ⟨h1, h2⟩
theorem fork_t {x : Bool} {p q : Prop} (h : x = true) (h1 : p) : fork x p q := ⟨fun _ => h1, fun h' => absurd (h.symm.trans h') (by simp)⟩
theorem fork_f {x : Bool} {p q : Prop} (h : x = false) (h1 : q) : fork x p q := ⟨fun h' => absurd (h.symm.trans h') (by simp), fun _ => h1⟩
theorem fork_out {x : Bool} {p q : Prop} (h : fork x p q) : (x = true → p) ∧ (x = false → q) := h
attribute [irreducible] fork

/-- Two runs; a state that is another one. -/
def both (p q : Prop) : Prop := p ∧ q
theorem both_i {p q : Prop} (h1 : p) (h2 : q) : both p q := ⟨h1, h2⟩
theorem both_out {p q : Prop} (h : both p q) : p ∧ q := h
attribute [irreducible] both
def alike (p : Prop) : Prop := p
theorem alike_i {p : Prop} (h : p) : alike p := h
theorem alike_out {p : Prop} (h : alike p) : p := h
attribute [irreducible] alike

def isStore (o : Oper) : Bool := match o.op with | .store _ _ _ => true | _ => false
/-- The two last ones are stores, neither of which is sure to come first; all else is ahead of them. -/
def tail2 (tab : List (List Nat)) (ops : List Oper) : Option (List Oper × Oper × Oper) :=
  match ops.length with
  | n + 2 => match ops.drop n with
    | [s1, s2] => bif isStore s1 && isStore s2 && !(tab.getD (n + 1) []).contains n && ((List.range n).all fun j => (tab.getD n []).contains j && (tab.getD (n + 1) []).contains j) then some (ops.take n, s1, s2) else none
    | _ => none
  | _ => none
def drawRun (E : Env) (ops : List Oper) (fr : Fr) (hp : List AO) (nx : Nat) (Q : Post) : Prop :=
  match tail2 (bef ops) ops with
  | none => runDraw0 E ops (bef ops) (ops.map hsen) ops fr hp nx Q
  | some (pre, s1, s2) => runDraw0 E ops (bef ops) (ops.map hsen) pre fr hp nx fun fr hp nx => runOps E ops [s1, s2] fr hp nx fun fr1 hp1 nx1 =>
    both (runOps E ops [s2, s1] fr hp nx fun fr2 hp2 nx2 => alike (fr2 = fr1 ∧ hp2 = hp1 ∧ nx2 = nx1)) (Q fr1 hp1 nx1)

def run (E : Env) : Code → Fr → List AO → Nat → (Ex → Post) → Prop
  | .skip, fr, hp, nx, Q => Q .normal fr hp nx
  | .region _ ops dr, fr, hp, nx, Q => (match dr with
    | false => runOps E ops.toList ops.toList fr hp nx (Q .normal)
    | true => drawOk ops.toList = true ∧ drawRun E ops.toList fr hp nx (Q .normal))
  | .seq a b, fr, hp, nx, Q => run E a fr hp nx fun e fr hp nx => match e with
    | .normal => run E b fr hp nx Q
    | .ret => Q .ret fr hp nx
    | .exit n => Q (.exit n) fr hp nx
  | .cond c a b, fr, hp, nx, Q => match raw fr c with
    | .v (.bool x) => fork x (run E a fr hp nx Q) (run E b fr hp nx Q)
    | _ => False
  | .block id c, fr, hp, nx, Q => run E c fr hp nx fun e fr hp nx => match e with
    | .exit n => bif Nat.beq n id then Q .normal fr hp nx else Q (.exit n) fr hp nx
    | .normal => Q .normal fr hp nx
    | .ret => Q .ret fr hp nx
  | .loop c, fr, hp, nx, Q => loopP (run E c) fr hp nx Q
  | .exit n, fr, hp, nx, Q => Q (.exit n) fr hp nx
  | .ret, fr, hp, nx, Q => Q .ret fr hp nx
  | _, _, _, _, _ => False

end Go.Proofs.Ythlkhjfilfdpiaa.Eng
