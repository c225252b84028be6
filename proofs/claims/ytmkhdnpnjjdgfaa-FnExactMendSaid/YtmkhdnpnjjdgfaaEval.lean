/- A pure evaluator over a program's own code: values are trees; what owns memory of its own lies in objects of the frame. -/
import GoSem.Step
import Derived.RowKit
import Derived.Orders
set_option linter.unusedVariables false
namespace Go.Proofs.Ytmkhdnpnjjdgfaa.Ev
open Go

/-- A read-only tree: a cell's value, or a slice's rows (each of so many cells). -/
inductive T where
  | lit (v : Value)
  | sl (sz : Nat) (rows : List (List T))
  deriving Inhabited

/-- A cell in an object: read-only (b: lent for this call alone); owned all through; an owned slice whose cells are told one by one; taken away. -/
inductive C where
  | im (b : Bool) (t : T)
  | ow (t : T)
  | own (sz : Nat) (rows : List (List C))
  | hole
  deriving Inhabited

/-- What a slot holds. -/
inductive S where
  | dead
  | undef
  | nils
  | lit (v : Value)
  | val (b : Bool) (t : T)
  | agg (b : Bool) (ts : List T)
  | vw (k : Nat) (p : List (Nat × Nat)) (off n : Nat) (ag : Bool)
  | sub (k : Nat) (p : List (Nat × Nat)) (off sz lo hi : Nat)
  | ptr (k : Nat) (p : List (Nat × Nat)) (off : Nat)
  | pt (b : Bool) (ts : List T)
  | fn (g : FuncId) (caps : List S)
  | tup (xs : List S)
  deriving Inhabited

structure O where
  cells : List C
  box : Bool := false
  var : Bool := false
  deriving Inhabited

/-- A frame's state. -/
structure F where
  sl : List S
  ob : List (Nat × O)
  deriving Inhabited

/-- A result. -/
inductive V where
  | lit (v : Value)
  | val (b : Bool) (t : T)
  | agg (b : Bool) (ts : List T)
  | nils
  | ov (cells : List C) (ag : Bool)
  | op (cells : List C)
  | ptr (k : Nat) (p : List (Nat × Nat)) (off : Nat)
  | tup (vs : List V)
  deriving Inhabited

inductive Ex where
  | normal
  | exit (id : Nat)
  | ret
  deriving Inhabited, DecidableEq

/-- A type, as the evaluator wants it. -/
structure TV where
  desc : TypeDesc
  cells : Nat
  bytes : Nat
  zero : List T
  agg : Bool
  deriving Inhabited

structure Env where
  ty : TypeId → Option TV
  /-- how an owned argument is handed over: 1 with its memory; else it is lent to be read -/
  how : FuncId → Nat → Nat
  ext : FuncId → Option (List S → List O → Option (V × List (Option O)))
  /-- at the head of a loop of a function (its first region): the slots that are wanted further on -/
  keep : FuncId → Nat → Option (List Nat)

mutual
def C.toT : C → Option T
  | .im _ t => some t
  | .ow t => some t
  | .own sz rows => (rowsToT rows).map (.sl sz)
  | .hole => none
def cellsToT : List C → Option (List T)
  | [] => some []
  | c :: cs => match C.toT c, cellsToT cs with
    | some t, some ts => some (t :: ts)
    | _, _ => none
def rowsToT : List (List C) → Option (List (List T))
  | [] => some []
  | r :: rs => match cellsToT r, rowsToT rs with
    | some t, some ts => some (t :: ts)
    | _, _ => none
end

def T.isLit : T → Bool
  | .lit _ => true
  | .sl .. => false

/-- Holds a cell no memory that is owned? -/
def C.free : C → Bool
  | .im _ _ => true
  | .ow (.lit _) => true
  | _ => false

mutual
/-- Is all memory of a cell owned (a value of one cell has none)? Then what it holds. -/
def C.owned : C → Option T
  | .ow t => some t
  | .im _ (.lit v) => some (.lit v)
  | .own sz rows => (ownedRows rows).map (.sl sz)
  | _ => none

def ownedAll : List C → Option (List T)
  | [] => some []
  | c :: cs => match C.owned c, ownedAll cs with
    | some t, some ts => some (t :: ts)
    | _, _ => none

def ownedRows : List (List C) → Option (List (List T))
  | [] => some []
  | r :: rs => match ownedAll r, ownedRows rs with
    | some t, some ts => some (t :: ts)
    | _, _ => none
end

def litC (b : Bool) : T → C
  | .lit v => .ow (.lit v)
  | t => .im b t

mutual
/-- Holds a cell what is lent for this call alone? -/
def C.lent : C → Bool
  | .im b t => b && !t.isLit
  | .own _ rows => lentRows rows
  | _ => false
def lentAll : List C → Bool
  | [] => false
  | c :: cs => C.lent c || lentAll cs
def lentRows : List (List C) → Bool
  | [] => false
  | r :: rs => lentAll r || lentRows rs
end

/-- Rows of an owned slice, cell by cell. -/
def C.rows : C → Option (Nat × List (List C))
  | .ow (.sl sz rows) => some (sz, rows.map (·.map C.ow))
  | .own sz rows => some (sz, rows)
  | _ => none

/-- A slice's stride. -/
def C.sz : C → Option Nat
  | .im _ (.sl sz _) => some sz
  | .ow (.sl sz _) => some sz
  | .own sz _ => some sz
  | _ => none

def C.len : C → Option Nat
  | .im _ (.sl _ rows) => some rows.length
  | .ow (.sl _ rows) => some rows.length
  | .own _ rows => some rows.length
  | _ => none

/-- One row of a slice in an object. -/
def C.row (c : C) (i : Nat) : Option (List C) :=
  match c with
  | .ow (.sl _ rows) => (rows[i]?).map (·.map C.ow)
  | .own _ rows => rows[i]?
  | _ => none

def C.setRow (c : C) (i : Nat) (r : List C) : Option C :=
  match c with
  | .ow (.sl sz rows) => match ownedAll r with
    | some ts => some (.ow (.sl sz (rows.set i ts)))
    | none => some (.own sz ((rows.map (·.map C.ow)).set i r))
  | .own sz rows => some (.own sz (rows.set i r))
  | _ => none

def getRow : List C → List (Nat × Nat) → Option (List C)
  | cs, [] => some cs
  | cs, (c, i) :: p => match cs[c]? with
    | some x => match x.row i with
      | some r => getRow r p
      | none => none
    | none => none

def setRow : List C → List (Nat × Nat) → List C → Option (List C)
  | _, [], new => some new
  | cs, (c, i) :: p, new => match cs[c]? with
    | some x => match x.row i with
      | some r => match setRow r p new with
        | some r' => match x.setRow i r' with
          | some x' => some (cs.set c x')
          | none => none
        | none => none
      | none => none
    | none => none

def setRange (cs : List C) (off : Nat) (new : List C) : List C := cs.take off ++ new ++ cs.drop (off + new.length)

def look (ob : List (Nat × O)) (k : Nat) : Option O :=
  match ob with
  | [] => none
  | (j, o) :: r => if j = k then some o else look r k

def drop_ (ob : List (Nat × O)) (k : Nat) : List (Nat × O) :=
  match ob with
  | [] => []
  | (j, x) :: r => if j = k then r else (j, x) :: drop_ r k

def put_ (ob : List (Nat × O)) (k : Nat) (o : O) : List (Nat × O) :=
  match ob with
  | [] => []
  | (j, x) :: r => if j = k then (k, o) :: r else (j, x) :: put_ r k o

/-- Does a handle lie (k, p, off .. off + n) or below? -/
def through (p : List (Nat × Nat)) (off n : Nat) : List (Nat × Nat) → Bool
  | [] => false
  | (c, i) :: q => match p with
    | [] => off ≤ c && c < off + n
    | (c', i') :: p' => c == c' && i == i' && through p' off n q

mutual
/-- Slots whose handles name an object: dead. -/
def killAll (k : Nat) : S → S
  | .vw j p o n a => if j = k then .dead else .vw j p o n a
  | .sub j p o z l h => if j = k then .dead else .sub j p o z l h
  | .ptr j p o => if j = k then .dead else .ptr j p o
  | .fn g caps => .fn g (killAlls k caps)
  | .tup xs => .tup (killAlls k xs)
  | s => s
def killAlls (k : Nat) : List S → List S
  | [] => []
  | s :: r => killAll k s :: killAlls k r
end

mutual
/-- Handles that a write into a place makes stale: dead. -/
def killAt (k : Nat) (p : List (Nat × Nat)) (off n : Nat) : S → S
  | .vw j q o m a => if j = k && ((q == p && (off < o + m && o < off + n)) || through p off n q) then .dead else .vw j q o m a
  | .sub j q o z l h => if j = k && ((q == p && (off < o + 1 && o < off + n)) || through p off n q) then .dead else .sub j q o z l h
  | .ptr j q o => if j = k && through p off n q then .dead else .ptr j q o
  | .fn g caps => .fn g (killAts k p off n caps)
  | .tup xs => .tup (killAts k p off n xs)
  | s => s
def killAts (k : Nat) (p : List (Nat × Nat)) (off n : Nat) : List S → List S
  | [] => []
  | s :: r => killAt k p off n s :: killAts k p off n r
end

mutual
def rekey (k k' : Nat) : S → S
  | .vw j p o n a => .vw (if j = k then k' else j) p o n a
  | .sub j p o z l h => .sub (if j = k then k' else j) p o z l h
  | .ptr j p o => .ptr (if j = k then k' else j) p o
  | .fn g caps => .fn g (rekeys k k' caps)
  | .tup xs => .tup (rekeys k k' xs)
  | s => s
def rekeys (k k' : Nat) : List S → List S
  | [] => []
  | s :: r => rekey k k' s :: rekeys k k' r
end

def F.at_ (σ : F) (i : Nat) : S := σ.sl.getD i .dead
def F.put (σ : F) (d : Option Nat) (s : S) : F := match d with | some d => { σ with sl := σ.sl.set d s } | none => σ
def keyOf (d j : Nat) : Nat := 64 + 8 * d + j
/-- Is it a key of objects that an operation with this destination makes? -/
def newKey (d : Option Nat) (k : Nat) : Bool := match d with | some d => k / 8 == 8 + d | none => false
/-- A new object in the place of whatever was called so. -/
def F.new (σ : F) (k : Nat) (o : O) : F := { sl := killAlls k σ.sl, ob := (k, o) :: drop_ σ.ob k }
def F.del (σ : F) (k : Nat) : F := { sl := killAlls k σ.sl, ob := drop_ σ.ob k }

def cellT : Value → Option T
  | .slice none 0 0 => some (.sl 0 [])
  | .slice .. => none
  | .pointer (some _) => none
  | .map (some _) => none
  | .chan (some _) => none
  | .func .. => none
  | .agg _ => none
  | .tuple _ => none
  | v => some (.lit v)

def cellsT : List Value → Option (List T)
  | [] => some []
  | v :: r => match cellT v, cellsT r with
    | some t, some ts => some (t :: ts)
    | _, _ => none

def constS : Value → S
  | .slice none 0 0 => .nils
  | .agg cs => match cellsT cs.toList with | some ts => .agg false ts | none => .dead
  | v => match cellT v with | some (.lit v) => .lit v | _ => .dead

def F.rd (σ : F) : Operand → S
  | .tmp t => σ.at_ t
  | .const v => constS v
  | .func f => .fn f []
  | .global _ => .dead

/-- The cells of a place. -/
def F.cells (σ : F) (k : Nat) (p : List (Nat × Nat)) (off n : Nat) : Option (List C) :=
  match look σ.ob k with
  | some o => match getRow o.cells p with
    | some r => if off + n ≤ r.length then some ((r.drop off).take n) else none
    | none => none
  | none => none

/-- Write cells at a place. -/
def F.write (σ : F) (k : Nat) (p : List (Nat × Nat)) (off : Nat) (new : List C) : Option F :=
  match look σ.ob k with
  | some o =>
    if p.isEmpty then none else
    match getRow o.cells p with
    | some r => if off + new.length ≤ r.length then
        match setRow o.cells p (setRange r off new) with
        | some cs => some { sl := killAts k p off new.length σ.sl, ob := put_ σ.ob k { o with cells := cs } }
        | none => none
      else none
    | none => none
  | none => none

/-- The read-only cells that a slot's value is; none for what is no value. -/
def F.freeOf (σ : F) : S → Option (List T)
  | .lit v => some [.lit v]
  | .val _ t => some [t]
  | .agg _ ts => some ts
  | .nils => some [.sl 0 []]
  | .vw k p off n _ => match σ.cells k p off n with | some cs => cellsToT cs | none => none
  | .sub k p off sz lo hi => match σ.cells k p off 1 with
    | some [c] => match c.toT with
      | some (.sl sz' rows) => if sz' = sz ∧ lo ≤ hi ∧ hi ≤ rows.length then some [.sl sz ((rows.drop lo).take (hi - lo))] else none
      | _ => none
    | _ => none
  | _ => none

/-- A value of one cell, read. -/
def F.free1 (σ : F) (s : S) : Option T :=
  match s with
  | .agg .. => none
  | .vw _ _ _ _ true => none
  | s => match σ.freeOf s with
    | some [t] => some t
    | _ => none

/-- A value is taken, with its memory: the cells, and the state without it. -/
def F.take (σ : F) : S → Option (List C × F)
  | .lit v => some ([.ow (.lit v)], σ)
  | .val b t => some ([litC b t], σ)
  | .agg b ts => some (ts.map (litC b), σ)
  | .nils => some ([.ow (.sl 0 [])], σ)
  | .vw k p off n _ => match look σ.ob k with
    | some o =>
      match σ.cells k p off n with
      | some cs =>
        if cs.all C.free then some (cs, σ)
        else if !o.box && p.isEmpty && off = 0 && n = o.cells.length then some (cs, σ.del k)
        else if p.isEmpty then none
        else match getRow o.cells p with
          | some r => match setRow o.cells p (setRange r off (cs.map fun c => if c.free then c else .hole)) with
            | some cs' => some (cs, { sl := killAts k p off n σ.sl, ob := put_ σ.ob k { o with cells := cs' } })
            | none => none
          | none => none
      | none => none
    | none => none
  | _ => none

def isAgg (e : Env) (t : TypeId) : Bool := match e.ty t with | some v => v.agg | none => false

/-- A value out of read-only cells. -/
def ofT (b ag : Bool) (ts : List T) : S := if ag then .agg b ts else match ts with | [.lit v] => .lit v | [t] => .val b t | _ => .dead

/-- A value out of cells of an object: read-only where it owns nothing, else a handle. -/
def F.view (k : Nat) (p : List (Nat × Nat)) (off n : Nat) (ag : Bool) (cs : List C) : S :=
  if cs.all C.free then match cellsToT cs with | some ts => ofT (lentAll cs) ag ts | none => .dead
  else .vw k p off n ag

/-- A value that owns memory, or is made of parts that do: in an object of its own. -/
def F.made (σ : F) (d : Option Nat) (j : Nat) (ag : Bool) (cs : List C) : F × S :=
  if cs.all C.free then (σ, match cellsToT cs with | some ts => ofT (lentAll cs) ag ts | none => .dead)
  else match d with
    | some d => (σ.new (keyOf d j) { cells := cs }, .vw (keyOf d j) [] 0 cs.length ag)
    | none => (σ, .dead)

def intOf? : S → Option Int
  | .lit (.int _ n) => some n
  | _ => none

def boolOf? : S → Option Bool
  | .lit (.bool b) => some b
  | _ => none

def wrap64 := Go.RowKit.wrap64

def liT (v : Value) : S := .lit v

def binInt (op : BinOp) (k : IntKind) (a b : Int) : Option Value :=
  match op with
  | .add => some (.int k (k.wrap (a + b)))
  | .sub => some (.int k (k.wrap (a - b)))
  | .mul => some (.int k (k.wrap (a * b)))
  | .quo => if b = 0 then none else some (.int k (k.wrap (Int.tdiv a b)))
  | .rem => if b = 0 then none else some (.int k (Int.tmod a b))
  | .and => some (.int k (bits .and k a b))
  | .or => some (.int k (bits .or k a b))
  | .xor => some (.int k (bits .xor k a b))
  | .andNot => some (.int k (bits .andNot k a b))
  | .eql => some (.bool (decide (a = b)))
  | .neq => some (.bool (!decide (a = b)))
  | .lss => some (.bool (decide (a < b)))
  | .leq => some (.bool (decide (a ≤ b)))
  | .gtr => some (.bool (decide (a > b)))
  | .geq => some (.bool (decide (a ≥ b)))
  | _ => none

def binStr (op : BinOp) (a b : ByteArray) : Option Value :=
  match op with
  | .add => if a.size + b.size ≤ 9223372036854775807 then some (.string (a ++ b)) else none
  | .eql => some (.bool (decide (a = b)))
  | .neq => some (.bool (!decide (a = b)))
  | .lss => some (.bool (Op.bytesLess a.toList b.toList))
  | .leq => some (.bool (Op.bytesLess a.toList b.toList || decide (a = b)))
  | .gtr => some (.bool (!(Op.bytesLess a.toList b.toList || decide (a = b))))
  | .geq => some (.bool (!Op.bytesLess a.toList b.toList))
  | _ => none

/-- isBool: is the operands' type one of bools? -/
def binOp_ (op : BinOp) (isBool : Bool) (x y : S) : Option S :=
  match x, y with
  | .lit (.int k a), .lit (.int k' b) =>
    match op with
    | .shl => if b < 0 then none else some (liT (.int k (k.wrap (a * 2 ^ min b.toNat k.bits))))
    | .shr => if b < 0 then none else some (liT (.int k (a / 2 ^ min b.toNat k.bits)))
    | op => if k = k' then (binInt op k a b).map liT else none
  | .lit (.string a), .lit (.string b) => (binStr op a b).map liT
  | .lit (.bool a), .lit (.bool b) => if isBool then (match op with
    | .eql => some (liT (.bool (a == b)))
    | .neq => some (liT (.bool (!(a == b))))
    | _ => none) else none
  | _, _ => none

def unOp_ (op : UnOp) (x : S) : Option S :=
  match op, x with
  | .not, .lit (.bool b) => some (liT (.bool (!b)))
  | .neg, .lit (.int k n) => some (liT (.int k (k.wrap (0 - n))))
  | .xor, .lit (.int k n) => some (liT (.int k (bits .xor k (if k.signed then -1 else k.max) n)))
  | _, _ => none

def bytesT (s : ByteArray) : T := .sl 1 (s.data.toList.map fun b => [.lit (.int .u8 b.toNat)])

def byteOf : List T → Option UInt8
  | [.lit (.int .u8 n)] => some (UInt8.ofNat n.toNat)
  | _ => none

def bytesOf : List (List T) → Option (List UInt8)
  | [] => some []
  | r :: rs => match byteOf r, bytesOf rs with
    | some b, some bs => some (b :: bs)
    | _, _ => none

def lenS (σ : F) : S → Option Nat
  | .nils => some 0
  | .lit (.string s) => some s.size
  | .val _ (.sl _ rows) => some rows.length
  | .vw k p off 1 false => match σ.cells k p off 1 with | some [c] => c.len | _ => none
  | .sub _ _ _ _ lo hi => some (hi - lo)
  | _ => none

def maxBytes : Nat := 140737488355328

/-- The rows that are appended, each of m cells. -/
def F.source (σ : F) (m : Nat) (x : S) : Option (List (List C) × F) :=
  match x with
  | .nils => some ([], σ)
  | .lit (.string s) => if m = 1 then some (s.data.toList.map (fun b => [.ow (.lit (.int .u8 b.toNat))]), σ) else none
  | .val b (.sl sz rows) => if sz = m ∨ rows = [] then some (rows.map (·.map (litC b)), σ) else none
  | .vw k p off 1 false => match σ.cells k p off 1 with
    | some [c] => match c with
      | .im b (.sl sz rows) => if sz = m ∨ rows = [] then some (rows.map (·.map (litC b)), σ) else none
      | _ => match c.rows with
        | some (sz, rows) =>
          if sz = m ∨ rows = [] then
            (if rows.all (·.all C.free) then some (rows, σ)
            else match σ.take x with
              | some (_, σ') => some (rows, σ')
              | none => none)
          else none
        | none => none
    | _ => none
  | .sub k p off z lo hi => match σ.free1 (.sub k p off z lo hi) with
    | some (.sl sz rows) => if (sz = m ∨ rows = []) ∧ rows.all (·.all T.isLit) then some (rows.map (·.map (litC false)), σ) else none
    | _ => none
  | _ => none

def packRows (sz : Nat) (rows : List (List C)) : C :=
  match ownedRows rows with
  | some l => .ow (.sl sz l)
  | none => .own sz rows

def appendTo (c : C) (m : Nat) (rows : List (List C)) : Option C :=
  match c with
  | .ow (.sl sz old) => if sz = m ∨ sz = 0 then
      (match ownedRows rows with
       | some l => some (.ow (.sl m (old ++ l)))
       | none => some (.own m (old.map (·.map C.ow) ++ rows)))
    else none
  | .own sz old => if sz = m ∨ sz = 0 then some (.own m (old ++ rows)) else none
  | _ => none

/-- A value that is a struct or an array? -/
def S.ag : S → Bool
  | .agg .. => true
  | .vw _ _ _ _ b => b
  | _ => false

def F.append (σ : F) (e : Env) (d : Option Nat) (st : TypeId) (a : Operand) (src : Nat → F → Option (List (List C) × F)) : Option F :=
  match d, e.ty st with
  | some d, some { desc := .slice el, .. } => match e.ty el with
    | some v => if 0 < v.bytes then match src v.cells σ with
      | some (rows, σ1) =>
        match (if (σ1.rd a).ag then none else σ1.take (σ1.rd a)) with
        | some ([c], σ2) => match appendTo c v.cells rows with
          | some c' => match c'.len with
            | some n => if n * v.bytes ≤ maxBytes then
                (let σ3 := σ2.new (keyOf d 0) { cells := [c'] }
                 some (σ3.put (some d) (.vw (keyOf d 0) [] 0 1 false)))
              else none
            | none => none
          | none => none
        | _ => none
      | none => none
      else none
    | none => none
  | _, _ => none

/-! ### forgetting -/

mutual
/-- Is each handle in a slot right by the tests (of values; of pointers)? -/
def S.ok (tv tp : Nat → List (Nat × Nat) → Bool) : S → Bool
  | .vw k p _ _ _ => tv k p
  | .sub k p _ _ _ _ => tv k p
  | .ptr k p _ => tp k p
  | .fn _ caps => S.oks tv tp caps
  | .tup xs => S.oks tv tp xs
  | _ => true
def S.oks (tv tp : Nat → List (Nat × Nat) → Bool) : List S → Bool
  | [] => true
  | s :: r => S.ok tv tp s && S.oks tv tp r
end

def sift (tv tp : Nat → List (Nat × Nat) → Bool) (s : S) : S := if S.ok tv tp s then s else .dead

/-- The objects of these keys. -/
def pick : List (Nat × O) → List Nat → List (Nat × O)
  | _, [] => []
  | ob, k :: r => match look ob k with
    | some o => (k, o) :: pick (drop_ ob k) r
    | none => pick ob r

/-- The slots of these numbers, as far as their handles lie in objects that there are; the others are dead. -/
def maskSl (ob : List (Nat × O)) (ss : List Nat) : Nat → List S → List S
  | _, [] => []
  | i, s :: r => (if ss.contains i then sift (fun k _ => (look ob k).isSome) (fun k _ => (look ob k).isSome) s else .dead) :: maskSl ob ss (i + 1) r

def F.only (σ : F) (ss ks : List Nat) : F := { sl := maskSl (pick σ.ob ks) ss 0 σ.sl, ob := pick σ.ob ks }

mutual
/-- The keys that a slot's handles name. -/
def S.keys : S → List Nat
  | .vw k _ _ _ _ => [k]
  | .sub k _ _ _ _ _ => [k]
  | .ptr k _ _ => [k]
  | .fn _ caps => S.keyss caps
  | .tup xs => S.keyss xs
  | _ => []
def S.keyss : List S → List Nat
  | [] => []
  | s :: r => S.keys s ++ S.keyss r
end

/-- What is wanted further on: these slots, what their handles name, and what came in from the caller. -/
def F.keep (σ : F) (m : Option (List Nat)) : F :=
  match m with
  | none => σ
  | some ss => σ.only ss ((σ.ob.map (·.1)).filter (· < 64) ++ S.keyss (ss.map σ.at_))

/-- Stands an object's first row? -/
def rowOk (o : Option O) : Bool :=
  match o with
  | some o => match o.cells with
    | c :: _ => (c.row 0).isSome
    | [] => false
  | none => false

/-- Behind an operation that had these objects in its hands: which handles still stand. -/
def stillV (d : Option Nat) (ks : List Nat) (ob : List (Nat × O)) (k : Nat) (p : List (Nat × Nat)) : Bool :=
  !ks.contains k || (p.isEmpty && !newKey d k && (look ob k).isSome)
def stillP (d : Option Nat) (ks : List Nat) (ob : List (Nat × O)) (k : Nat) (p : List (Nat × Nat)) : Bool :=
  !ks.contains k || (p == [(0, 0)] && !newKey d k && rowOk (look ob k))

def dropAll (ks : List Nat) (ob : List (Nat × O)) : List (Nat × O) := ob.filter fun x => !ks.contains x.1

def apartL (a b : List Nat) : Bool := a.all fun x => !b.contains x

/-! ### calls -/

mutual
/-- Holds a result what was lent? -/
def V.lent : V → Bool
  | .lit _ => false
  | .val b t => b && !t.isLit
  | .agg b ts => b && ts.any fun t => !t.isLit
  | .nils => false
  | .ov cells _ => lentAll cells
  | .op cells => lentAll cells
  | .ptr .. => false
  | .tup vs => lentVs vs
def lentVs : List V → Bool
  | [] => false
  | v :: r => v.lent || lentVs r
end

def lentO : List (Option O) → Bool
  | [] => false
  | some o :: r => lentAll o.cells || lentO r
  | none :: r => lentO r

def F.push (σ : F) (s : S) : F := { σ with sl := σ.sl ++ [s] }

/-- A place whose memory is handed over: an object of its own meanwhile, and a ghost slot that keeps the place in mind. -/
def F.lend (σ : F) (t tk : Nat) : Option (F × List (Nat × Nat)) :=
  match σ.at_ t with
  | .vw k p off n ag => match look σ.ob k with
    | some o =>
      if !o.box && p.isEmpty && off = 0 && n = o.cells.length then some (σ, [])
      else match σ.cells k p off n with
        | some cs => match σ.write k p off (cs.map fun c => if c.free then c else .hole) with
          | some σ1 => if (look σ1.ob tk).isNone && 64 ≤ tk then
              some (((σ1.push (.vw k p off n true)).new tk { cells := cs }).put (some t) (.vw tk [] 0 n ag), [(σ.sl.length, tk)]) else none
          | none => none
        | none => none
    | none => none
  | _ => some (σ, [])

/-- What was lent comes back to its place. -/
def F.unlend (σ : F) (pl : Nat × Nat) : Option F :=
  match look σ.ob pl.2 with
  | none => some σ
  | some o => match σ.at_ pl.1 with
    | .vw k p off n true => if o.cells.length = n ∧ k ≠ pl.2 then (σ.del pl.2).write k p off o.cells else none
    | _ => none

def unlendAll : F → List (Nat × Nat) → Option F
  | σ, [] => some σ
  | σ, pl :: r => match unlendAll σ r with
    | some σ1 => σ1.unlend pl
    | none => none

/-- Where a parameter is handed over with its memory. -/
def lendArgs (how : Nat → Nat) (n0 : Nat) : Nat → Nat → F → Option (F × List (Nat × Nat))
  | 0, _, σ => some (σ, [])
  | m + 1, i, σ =>
    if how i = 1 then
      (match σ.lend (n0 + i) (keyOf (100000 + i) 0) with
       | some (σ1, pl) => match lendArgs how n0 m (i + 1) σ1 with
         | some (σ2, pls) => some (σ2, pl ++ pls)
         | none => none
       | none => none)
    else lendArgs how n0 m (i + 1) σ

/-- What is handed over to be read is lent. -/
def F.borrow (σ : F) (s : S) : Option (S × List Nat) :=
  match s with
  | .vw k p off n ag => match σ.freeOf (.vw k p off n ag) with
    | some ts => some (ofT true ag ts, [k])
    | none => none
  | .sub k p off sz lo hi => match σ.freeOf (.sub k p off sz lo hi) with
    | some ts => some (ofT true false ts, [k])
    | none => none
  | s => some (s, [])

def borrowAll (how : Nat → Nat) (σ : F) : Nat → List S → Option (List S × List Nat)
  | _, [] => some ([], [])
  | i, s :: r => match (if how i = 1 then some (s, []) else σ.borrow s), borrowAll how σ (i + 1) r with
    | some (x, b), some (xs, bs) => some (x :: xs, b ++ bs)
    | _, _ => none

def numOf (keys : List Nat) (k : Nat) : Nat :=
  match keys with
  | [] => 0
  | j :: r => if j = k then 0 else numOf r k + 1

mutual
/-- The same slot, its handles' keys called otherwise. -/
def S.renum (g : Nat → Nat) : S → S
  | .vw k p o n a => .vw (g k) p o n a
  | .sub k p o z l h => .sub (g k) p o z l h
  | .ptr k p o => .ptr (g k) p o
  | .fn f caps => .fn f (S.renums g caps)
  | .tup xs => .tup (S.renums g xs)
  | s => s
def S.renums (g : Nat → Nat) : List S → List S
  | [] => []
  | s :: r => S.renum g s :: S.renums g r
end

def dedup : List Nat → List Nat
  | [] => []
  | k :: r => if r.contains k then dedup r else k :: dedup r

def looks (ob : List (Nat × O)) : List Nat → Option (List O)
  | [] => some []
  | k :: r => match look ob k, looks ob r with
    | some o, some os => some (o :: os)
    | _, _ => none

/-- The objects that came back. -/
def backs : List Nat → List (Option O) → List (Nat × O)
  | k :: ks, some o :: os => (k, o) :: backs ks os
  | _ :: ks, none :: os => backs ks os
  | _, _ => []

def F.back (σ : F) (ks : List Nat) (os : List (Option O)) : F :=
  { sl := σ.sl.map (sift (stillV none ks (backs ks os)) (stillP none ks (backs ks os))), ob := backs ks os ++ dropAll ks σ.ob }

/-- A result, in the caller: part j; behind the slots. -/
def recvOne (σ : F) (keys : List Nat) (d j : Nat) : V → Option F
  | .lit v => some (σ.push (.lit v))
  | .val b t => some (σ.push (.val b t))
  | .agg b ts => some (σ.push (.agg b ts))
  | .nils => some (σ.push .nils)
  | .ov cells ag => some ((σ.new (keyOf d j) { cells }).push (.vw (keyOf d j) [] 0 cells.length ag))
  | .op cells => some ((σ.new (keyOf d j) { cells, box := true }).push (.ptr (keyOf d j) [(0, 0)] 0))
  | .ptr k p off => match keys[k]? with
    | some key => if newKey (some d) key then none else some (σ.push (.ptr key p off))
    | none => none
  | .tup _ => none

def recvMany (keys : List Nat) (d : Nat) : F → Nat → List V → Option F
  | σ, _, [] => some σ
  | σ, j, v :: r => if j < 8 then
      (match recvOne σ keys d j v with
       | some σ' => recvMany keys d σ' (j + 1) r
       | none => none) else none

def recvAll (σ : F) (keys : List Nat) (d : Option Nat) (v : V) : Option F :=
  match d with
  | none => some σ
  | some d => if d < 100000 then (match v with
    | .tup vs => recvMany keys d σ 0 vs
    | v => recvOne σ keys d 0 v) else none

/-- The results' slots become one, the frame its own again. -/
def F.done (σ : F) (n0 n1 : Nat) (d : Option Nat) (v : V) : Option F :=
  if σ.ob.all (fun x => decide (x.1 < keyOf 100000 0)) then
    match d with
    | none => some { σ with sl := σ.sl.take n0 }
    | some d => match v with
      | .tup _ => some (F.put { σ with sl := σ.sl.take n0 } (some d) (.tup (σ.sl.drop n1)))
      | _ => match σ.sl.drop n1 with
        | [s] => some (F.put { σ with sl := σ.sl.take n0 } (some d) s)
        | _ => none
  else none

def F.call (σ : F) (e : Env) (run : FuncId → List S → List O → Option (V × List (Option O))) (d : Option Nat) (f : FuncId) (args : List S) : Option F :=
  let n0 := σ.sl.length
  match lendArgs (e.how f) n0 args.length 0 { σ with sl := σ.sl ++ args } with
  | some (σ1, pls) =>
    match borrowAll (e.how f) σ1 0 ((σ1.sl.drop n0).take args.length) with
    | some (xs, bs) =>
      let ks := dedup (S.keyss xs)
      match looks σ1.ob ks with
      | some obs =>
        if apartL ks bs ∧ obs.length < 64 then
          (match run f (S.renums (numOf ks) xs) obs with
           | some (v, os) =>
             if (bs.isEmpty || (!v.lent && !lentO os)) ∧ os.length = obs.length then
               (match recvAll (σ1.back ks os) ks d v with
                | some σ2 => match unlendAll σ2 pls with
                  | some σ3 => σ3.done n0 σ1.sl.length d v
                  | none => none
                | none => none)
             else none
           | none => none)
        else none
      | none => none
    | none => none
  | none => none

/-- An element's address in a slice that lies in a cell of an object. -/
def elemAt (w k : Nat) (p : List (Nat × Nat)) (off : Nat) (c : C) (i : Nat) : Option S :=
  match c with
  | .im b (.sl sz rows) => if sz = w then (rows[i]?).map (.pt b) else none
  | c => if c.sz = some w then (c.row i).map (fun _ => .ptr k (p ++ [(off, i)]) 0) else none

def addrOf (e : Env) (σ : F) (t : TypeId) (x i : S) : Option S :=
  match intOf? i, e.ty t with
  | some n, some v =>
    if n < 0 then none else
    match v.desc with
    | .slice el => match e.ty el with
      | some w => match x with
        | .val b (.sl sz rows) => if sz = w.cells then (rows[n.toNat]?).map (.pt b) else none
        | .vw k p off 1 false => match σ.cells k p off 1 with
          | some [c] => elemAt w.cells k p off c n.toNat
          | _ => none
        | .sub k p off sz lo hi => if lo + n.toNat < hi ∧ sz = w.cells then
            (match σ.cells k p off 1 with
             | some [c] => elemAt w.cells k p off c (lo + n.toNat)
             | _ => none)
          else none
        | _ => none
      | none => none
    | .array len el => match e.ty el with
      | some w => if n.toNat < len then
          (match x with
           | .ptr k p off => some (.ptr k p (off + n.toNat * w.cells))
           | .pt b ts => some (.pt b (ts.drop (n.toNat * w.cells)))
           | _ => none)
        else none
      | none => none
    | _ => none
  | _, _ => none

/-- The cells of a slice's element, where they fit the stride (an empty slice has none). -/
def szOk (e : Env) (el : TypeId) (sz n : Nat) : Bool :=
  match e.ty el with
  | some w => n = 0 || w.cells = sz
  | none => false

def sliceIt (e : Env) (σ : F) (t : TypeId) (x : S) (lo hi : Option Int) : Option S :=
  match e.ty t, lenS σ x with
  | some v, some n =>
    let l := lo.getD 0
    let h := hi.getD n
    if 0 ≤ l ∧ l ≤ h ∧ h ≤ n then
      match v.desc, x with
      | .slice el, .nils => if (e.ty el).isSome then some .nils else none
      | .string, .lit (.string s) => some (liT (.string (s.extract l.toNat h.toNat)))
      | .slice el, .val b (.sl sz rows) => if szOk e el sz n then some (.val b (.sl sz ((rows.drop l.toNat).take (h.toNat - l.toNat)))) else none
      | .slice el, .vw k p off 1 false => match σ.cells k p off 1 with
        | some [c] => match c.sz with
          | some sz => if szOk e el sz n then some (.sub k p off sz l.toNat h.toNat) else none
          | none => none
        | _ => none
      | .slice el, .sub k p off sz lo' _ => if szOk e el sz n then some (.sub k p off sz (lo' + l.toNat) (lo' + h.toNat)) else none
      | _, _ => none
    else none
  | _, _ => none

def optInt (σ : F) : Option Operand → Option (Option Int)
  | none => some none
  | some x => (intOf? (σ.rd x)).map some

def partCells (σ : F) (xs : List (Nat × Operand)) : Option (List (Nat × List C) × F) :=
  match xs with
  | [] => some ([], σ)
  | (i, x) :: r => match σ.take (σ.rd x) with
    | some (cs, σ') => match partCells σ' r with
      | some (l, σ'') => some ((i, cs) :: l, σ'')
      | none => none
    | none => none

/-- Places and sizes of fields. -/
def fieldPlaces (e : Env) : List Go.Field → Option (List (Nat × Nat))
  | [] => some []
  | f :: r => match e.ty f.type, fieldPlaces e r with
    | some w, some l => some ((f.offset, w.cells) :: l)
    | _, _ => none

def placesOf (e : Env) : TypeDesc → Option (Nat → Option (Nat × Nat))
  | .struct fs => (fieldPlaces e fs.toList).map fun l i => l[i]?
  | .array _ el => (e.ty el).map fun w i => some (i * w.cells, w.cells)
  | _ => none

def fillAt (place : Nat → Option (Nat × Nat)) (cells : List C) : List (Nat × List C) → Option (List C)
  | [] => some cells
  | (i, cs) :: r => match place i with
    | some (off, sz) => if cs.length = sz ∧ off + sz ≤ cells.length then fillAt place (setRange cells off cs) r else none
    | none => none

def chunk (sz : Nat) : Nat → List C → List (List C)
  | 0, _ => []
  | n + 1, cs => cs.take sz :: chunk sz n (cs.drop sz)

def opOf (e : Env) (run : FuncId → List S → List O → Option (V × List (Option O))) (σ : F) (o : Oper) : Option F :=
  match o.op with
  | .move x => match σ.rd x with
    | .dead => some (σ.put o.dst .dead)
    | s => some (σ.put o.dst s)
  | .assign x => match σ.rd x, o.dst with
    | .vw k [] 0 n ag, some d => match look σ.ob k with
      | some ob => if !ob.box && !ob.var && 64 ≤ k && n = ob.cells.length && k ≠ keyOf d 0 then
          (let σ1 := σ.del (keyOf d 0)
           some (F.put { sl := rekeys k (keyOf d 0) σ1.sl, ob := (keyOf d 0, { ob with var := true }) :: drop_ σ1.ob k } (some d) (.vw (keyOf d 0) [] 0 n ag)))
        else some (σ.put (some d) (.vw k [] 0 n ag))
      | none => none
    | s, d => some (σ.put d s)
  | .pick c a b => match boolOf? (σ.rd c) with
    | some x => some (σ.put o.dst (if x then σ.rd a else σ.rd b))
    | none => none
  | .alloc t => match o.dst, e.ty t with
    | some d, some v => some ((σ.new (keyOf d 0) { cells := [.own v.cells [v.zero.map .ow]], box := true }).put (some d) (.ptr (keyOf d 0) [(0, 0)] 0))
    | _, _ => none
  | .box _ x => match o.dst, σ.rd x with
    | some d, s => match σ.take s with
      | some (cs, σ') => if 0 < cs.length then some ((σ'.new (keyOf d 0) { cells := [.own cs.length [cs]], box := true }).put (some d) (.ptr (keyOf d 0) [(0, 0)] 0)) else none
      | none => none
    | _, _ => none
  | .build t parts => match e.ty t with
    | some v => match placesOf e v.desc, partCells σ parts.toList with
      | some place, some (l, σ') =>
        match fillAt place (v.zero.map .ow) l with
        | some cs => let r := σ'.made o.dst 0 true cs; some (r.1.put o.dst r.2)
        | none => none
      | _, _ => none
    | none => none
  | .buildSlice t len parts => match e.ty t, o.dst with
    | some { desc := .slice el, .. }, some d => match e.ty el with
      | some v => match partCells σ parts.toList with
        | some (l, σ') => if len * v.cells ≤ 16777216 then
          match fillAt (fun i => some (i * v.cells, v.cells)) ((List.replicate len (v.zero.map C.ow)).flatten) l with
          | some cs => some ((σ'.new (keyOf d 0) { cells := [packRows v.cells (chunk v.cells len cs)] }).put o.dst (.vw (keyOf d 0) [] 0 1 false))
          | none => none
          else none
        | none => none
      | none => none
    | _, _ => none
  | .load t a => match e.ty t with
    | some v => match σ.rd a with
      | .ptr k p off => match σ.cells k p off v.cells with
        | some cs => if cs.any (fun c => match c with | .hole => true | _ => false) then some (σ.put o.dst .dead) else some (σ.put o.dst (F.view k p off v.cells v.agg cs))
        | none => none
      | .pt b ts => if v.cells ≤ ts.length then some (σ.put o.dst (ofT b v.agg (ts.take v.cells))) else none
      | _ => none
    | none => none
  | .store t a x => match e.ty t with
    | some v => match σ.take (σ.rd x) with
      | some (cs, σ') => if cs.length = v.cells then
          (match σ'.rd a with
           | .ptr k p off => (σ'.write k p off cs).map (·.put o.dst .undef)
           | _ => none)
        else none
      | none => none
    | none => none
  | .nilCheck x => match σ.rd x with
    | .ptr k p off => some (σ.put o.dst (.ptr k p off))
    | .pt b ts => some (σ.put o.dst (.pt b ts))
    | .fn g caps => some (σ.put o.dst (.fn g caps))
    | _ => none
  | .binOp op t x y _ => match binOp_ op (match e.ty t with | some { desc := .bool, .. } => true | _ => false) (σ.rd x) (σ.rd y) with
    | some s => some (σ.put o.dst s)
    | none => none
  | .unOp op _ x => match unOp_ op (σ.rd x) with
    | some s => some (σ.put o.dst s)
    | none => none
  | .convert src dst x => match e.ty src, e.ty dst with
    | some a, some b => match a.desc, b.desc, σ.rd x with
      | _, .int k, .lit (.int _ n) => some (σ.put o.dst (liT (.int k (k.wrap n))))
      | _, .string, .lit (.string s) => some (σ.put o.dst (liT (.string s)))
      | .string, .slice el, .lit (.string s) => match o.dst, e.ty el with
        | some d, some { desc := .int .u8, cells := 1, .. } => if s.size ≤ 9223372036854775807 then some ((σ.new (keyOf d 0) { cells := [.ow (bytesT s)] }).put o.dst (.vw (keyOf d 0) [] 0 1 false)) else none
        | _, _ => none
      | .slice el, .string, s => match σ.free1 s, e.ty el with
        | some (.sl _ rows), some { desc := .int .u8, .. } => match bytesOf rows with
          | some bs => some (σ.put o.dst (liT (.string ⟨bs.toArray⟩)))
          | none => none
        | _, _ => none
      | _, _, _ => none
    | _, _ => none
  | .makeFunc (.func g) first captured => if first.isEmpty then some (σ.put o.dst (.fn g (captured.toList.map σ.rd))) else none
  | .makeSlice t l c => match e.ty t, o.dst with
    | some { desc := .slice el, .. }, some d => match e.ty el, intOf? (σ.rd l), intOf? (σ.rd c) with
      | some v, some n, some m => if 0 < v.bytes ∧ 0 ≤ n ∧ n ≤ m ∧ m.toNat * v.bytes ≤ maxBytes then
          some ((σ.new (keyOf d 0) { cells := [.ow (.sl v.cells (List.replicate n.toNat v.zero))] }).put o.dst (.vw (keyOf d 0) [] 0 1 false))
        else none
      | _, _, _ => none
    | _, _ => none
  | .slice t x lo hi none => match optInt σ lo, optInt σ hi with
    | some l, some h => match sliceIt e σ t (σ.rd x) l h with
      | some s => some (σ.put o.dst s)
      | none => none
    | _, _ => none
  | .fieldAddr t x f => match e.ty t with
    | some { desc := .struct fs, .. } => match fs[f]? with
      | some fd => if (e.ty fd.type).isSome then (match σ.rd x with
        | .ptr k p o' => some (σ.put o.dst (.ptr k p (o' + fd.offset)))
        | .pt b ts => some (σ.put o.dst (.pt b (ts.drop fd.offset)))
        | _ => none) else none
      | none => none
    | _ => none
  | .field t x f => match e.ty t with
    | some { desc := .struct fs, .. } => match fs[f]? with
      | some fd => match e.ty fd.type with
        | some w => match σ.rd x with
          | .agg b ts => if fd.offset + w.cells ≤ ts.length then some (σ.put o.dst (ofT b w.agg ((ts.drop fd.offset).take w.cells))) else none
          | .vw k p off n true => if fd.offset + w.cells ≤ n then (match σ.cells k p (off + fd.offset) w.cells with
            | some cs => some (σ.put o.dst (F.view k p (off + fd.offset) w.cells w.agg cs))
            | none => none) else none
          | _ => none
        | none => none
      | none => none
    | _ => none
  | .indexAddr t x i => match addrOf e σ t (σ.rd x) (σ.rd i) with
    | some s => some (σ.put o.dst s)
    | none => none
  | .index t x i => match e.ty t, σ.rd x, intOf? (σ.rd i) with
    | some { desc := .string, .. }, .lit (.string s), some n => if 0 ≤ n then
        (match s[n.toNat]? with
         | some b => some (σ.put o.dst (liT (.int .u8 b.toNat)))
         | none => none)
      else none
    | some { desc := .array len el, .. }, .agg b ts, some n => match e.ty el with
      | some w => if 0 ≤ n ∧ n < len ∧ n.toNat * w.cells + w.cells ≤ ts.length then some (σ.put o.dst (ofT b w.agg ((ts.drop (n.toNat * w.cells)).take w.cells))) else none
      | none => none
    | _, _, _ => none
  | .extract x i => match σ.rd x with
    | .tup xs => match xs[i]? with
      | some s => some (σ.put o.dst s)
      | none => none
    | _ => none
  | .call c => match c.callee with
    | .builtin .len => match c.args.toList, c.argTypes.toList with
      | [x], [t] => match lenS σ (σ.rd x), e.ty t with
        | some n, some { desc := .slice _, .. } => (match σ.rd x with | .lit _ => none | _ => some (σ.put o.dst (liT (.int .i64 n))))
        | some n, some { desc := .string, .. } => (match σ.rd x with | .lit _ => some (σ.put o.dst (liT (.int .i64 n))) | _ => none)
        | _, _ => none
      | _, _ => none
    | .builtin .append => match c.args.toList, c.argTypes.toList with
      | [a, x], [st, xt] => match e.ty xt with
        | some { desc := .int _, .. } => match e.ty st, intOf? (σ.rd x) with
          | some { desc := .slice el, .. }, some n => match e.ty el with
            | some v => if 0 < v.bytes ∧ 0 ≤ n ∧ n.toNat * v.bytes ≤ maxBytes then σ.append e o.dst st a (fun _ σ => some (List.replicate n.toNat (v.zero.map .ow), σ)) else none
            | none => none
          | _, _ => none
        | some _ => σ.append e o.dst st a (fun m σ => σ.source m (σ.rd x))
        | none => none
      | _, _ => none
    | .builtin .cap => match c.args.toList, c.argTypes.toList with
      | [x], [t] => match σ.rd x, e.ty t with
        | .nils, some { desc := .slice _, .. } => some (σ.put o.dst (liT (.int .i64 0)))
        | _, _ => none
      | _, _ => none
    | .builtin .min => match c.args.toList with
      | [x, y] => match intOf? (σ.rd x), intOf? (σ.rd y), σ.rd x with
        | some a, some b, .lit (.int k _) => some (σ.put o.dst (liT (.int k (if b < a then b else a))))
        | _, _, _ => none
      | _ => none
    | .builtin .max => match c.args.toList with
      | [x, y] => match intOf? (σ.rd x), intOf? (σ.rd y), σ.rd x with
        | some a, some b, .lit (.int k _) => some (σ.put o.dst (liT (.int k (if a < b then b else a))))
        | _, _, _ => none
      | _ => none
    | .builtin _ => none
    | .value f => match σ.rd f with
      | .fn g caps => σ.call e run o.dst g (c.args.toList.map σ.rd ++ caps)
      | _ => none
    | .invoke .. => none
  | _ => none

/-- Does an operation only yield a value? -/
def stillOp (e : Env) : Op → Bool
  | .alloc _ | .box .. | .buildSlice .. | .makeSlice .. | .store .. => false
  | .convert _ dst _ => match e.ty dst with | some { desc := .slice _, .. } => false | _ => true
  | .call c => match c.callee with | .builtin .append => false | .builtin _ => true | _ => false
  | _ => true

/-- Does an operation leave all memory that was there as it was? -/
def newOp : Op → Bool
  | .alloc _ | .box .. | .buildSlice .. | .makeSlice .. | .convert .. => true
  | _ => false

/-- Does an operation put a slot and do nothing else, to memory or to objects? -/
def slotOp (e : Env) : Op → Bool
  | .move _ | .pick .. | .load .. | .nilCheck _ | .binOp .. | .unOp .. | .makeFunc .. | .slice .. | .fieldAddr .. | .field .. | .indexAddr .. | .index .. | .extract .. => true
  | .convert _ dst _ => match e.ty dst with | some { desc := .slice _, .. } => false | _ => true
  | .call c => match c.callee with | .builtin .append => false | .builtin _ => true | _ => false
  | _ => false

/-- The objects that such an operation looks at. -/
def rkOf (σ : F) : Op → List Nat
  | .load _ a => (σ.rd a).keys
  | .convert _ _ x => (σ.rd x).keys
  | .slice _ x _ _ _ => (σ.rd x).keys
  | .field _ x _ => (σ.rd x).keys
  | .indexAddr _ x _ => (σ.rd x).keys
  | .index _ x _ => (σ.rd x).keys
  | .call c => S.keyss (c.args.toList.map σ.rd)
  | _ => []

/-- Is an operation to be done? -/
def guardOf (ops : Array Oper) (σ : F) (o : Oper) : Option Bool :=
  match o.guard with
  | none => some true
  | some (g, b) => match ops[g]? with
    | some og => match og.dst with
      | some d => match σ.at_ d with
        | .lit (.bool x) => some (x == b)
        | .undef => some false
        | _ => none
      | none => none
    | none => none

def opsOf (e : Env) (run : FuncId → List S → List O → Option (V × List (Option O))) (ops : Array Oper) : F → List Oper → Option F
  | σ, [] => some σ
  | σ, o :: r =>
    match guardOf ops σ o with
    | some b => if b then (match opOf e run σ o with
      | some σ' => opsOf e run ops σ' r
      | none => none) else opsOf e run ops (σ.put o.dst .undef) r
    | none => none

/-! ### regions that draw their order -/

/-- What an operation of such a region looks at and does, for whatever comes up before it. -/
inductive Res where
  | slot (rs : List Nat) (cs : List S) (rk : List Nat) (os : List (Option O)) (dst : Option Nat) (out : S)
  | eff (rs : List Nat) (ks : List Nat) (α : F) (dst : Option Nat) (β : F)
  deriving Inhabited

def setO (l : List S) (d : Option Nat) (s : S) : List S := match d with | some d => l.set d s | none => l

namespace Res
def dst : Res → Option Nat
  | slot _ _ _ _ d _ => d
  | eff _ _ _ d _ => d
def rs : Res → List Nat
  | slot rs .. => rs
  | eff rs .. => rs
def cont : Res → List S
  | slot _ cs .. => cs
  | eff rs _ α _ _ => rs.map α.at_
def rks : Res → List Nat
  | slot _ _ rk .. => rk
  | eff _ ks .. => ks
def tk : Res → List Nat
  | slot .. => []
  | eff _ ks _ _ β => ks ++ β.ob.map (·.1)
def out : Res → S
  | slot _ _ _ _ _ s => s
  | eff _ _ _ d β => match d with | some d => β.at_ d | none => .dead
def okS : Res → S → Bool
  | slot .. => fun _ => true
  | eff _ ks _ d β => S.ok (stillV d ks β.ob) (stillP d ks β.ob)
def sf (R : Res) (s : S) : S := if R.okS s then s else .dead
def app (R : Res) (σ : F) : F :=
  match R with
  | slot _ _ _ _ d s => σ.put d s
  | eff rs ks α d β => { sl := setO (σ.sl.map (eff rs ks α d β).sf) d (eff rs ks α d β).out, ob := β.ob ++ dropAll ks σ.ob }
end Res

def S.isDead : S → Bool
  | .dead => true
  | _ => false

/-- Two operations that may come up in either order. -/
def indepB (a b : Res) : Bool :=
  (match a.dst with | some d => !b.rs.contains d && b.dst != some d | none => true) && (match b.dst with | some d => !a.rs.contains d | none => true) &&
  apartL a.tk b.rks && apartL b.tk a.rks && apartL a.tk b.tk &&
  b.cont.all (fun c => !c.isDead) && a.cont.all (fun c => !c.isDead && b.okS c) && b.okS a.out && a.okS b.out

def nodupB : List Nat → Bool
  | [] => true
  | x :: r => !r.contains x && nodupB r

def resOf (e : Env) (run : FuncId → List S → List O → Option (V × List (Option O))) (ops : Array Oper) (σ : F) (o : Oper) : Option Res :=
  match guardOf ops σ o with
  | some true =>
    if slotOp e o.op then
      (match opOf e run σ o with
       | some σ' => some (.slot (o.looksAt ops) ((o.looksAt ops).map σ.at_) (rkOf σ o.op) ((rkOf σ o.op).map (look σ.ob)) o.dst (match o.dst with | some d => σ'.at_ d | none => .dead))
       | none => none)
    else
      (let ks := S.keyss ((o.looksAt ops).map σ.at_) ++ (σ.ob.map (·.1)).filter (newKey o.dst)
       match opOf e run (σ.only (o.looksAt ops) ks) o with
       | some β => if β.ob.all (fun x => ks.contains x.1 || (look σ.ob x.1).isNone) && nodupB (β.ob.map (·.1)) then some (.eff (o.looksAt ops) ks (σ.only (o.looksAt ops) ks) o.dst β) else none
       | none => none)
  | some false => some (.slot (o.looksAt ops) ((o.looksAt ops).map σ.at_) [] [] o.dst .undef)
  | none => none

def drawRun (e : Env) (run : FuncId → List S → List O → Option (V × List (Option O))) (ops : Array Oper) : Nat → List Oper → F → Option (List (Nat × Res) × F)
  | _, [], σ => some ([], σ)
  | i, o :: r, σ => match resOf e run ops σ o with
    | some R => match drawRun e run ops (i + 1) r (R.app σ) with
      | some (l, τ) => some ((i, R) :: l, τ)
      | none => none
    | none => none

/-- Whom an operation waits for, directly or through others. -/
def depsOf (dm : List (List Nat)) (o : Oper) : List Nat :=
  ((o.after.toList.filter (Region.binds .any)).flatMap fun e => e.on :: dm.getD e.on []).eraseDups
def depMat (ops : List Oper) : List (List Nat) := ops.foldl (fun dm o => dm ++ [depsOf dm o]) []

def depB (ops : Array Oper) (dm : List (List Nat)) : Bool :=
  (List.range ops.size).all fun j => match ops[j]? with
    | some o => o.after.toList.all (fun e => !Region.binds .any e || decide (e.on < j)) &&
      (dm.getD j []).all fun a => o.after.toList.any fun e => Region.binds .any e && (e.on == a || (dm.getD e.on []).contains a)
    | none => true

def pairsB (dm : List (List Nat)) : List (Nat × Res) → Bool
  | [] => true
  | (i, R) :: l => l.all (fun x => (dm.getD x.1 []).contains i || indepB R x.2) && pairsB dm l

def drawB (ops : Array Oper) (l : List (Nat × Res)) : Bool :=
  Region.noSelect ops && depB ops (depMat ops.toList) && pairsB (depMat ops.toList) l

def iter (body : F → Option (Ex × F)) : Nat → F → Option (Ex × F)
  | 0, _ => none
  | n + 1, σ => match body σ with
    | some (.normal, σ') => iter body n σ'
    | r => r

/-- The first region of a code. -/
def headOf : Code → Option Nat
  | .region id _ _ => some id
  | .seq a _ => headOf a
  | .block _ c => headOf c
  | .loop c => headOf c
  | .scope c => headOf c
  | _ => none

def keepAt (e : Env) (f : FuncId) (c : Code) (σ : F) : F := match headOf c with | some id => σ.keep (e.keep f id) | none => σ

/-- A loop's round. -/
def round (e : Env) (f : FuncId) (c : Code) (g : F → Option (Ex × F)) (σ : F) : Option (Ex × F) := g (keepAt e f c σ)

def codeOf (e : Env) (run : FuncId → List S → List O → Option (V × List (Option O))) (f : FuncId) (n : Nat) : Code → F → Option (Ex × F)
  | .skip, σ => some (.normal, σ)
  | .region id ops draw, σ =>
    if draw then
      (match drawRun e run ops 0 ops.toList σ with
       | some (l, τ) => if drawB ops l then some (.normal, τ) else none
       | none => none)
    else (opsOf e run ops σ ops.toList).map (Ex.normal, ·)
  | .seq a b, σ => match codeOf e run f n a σ with
    | some (.normal, σ') => codeOf e run f n b σ'
    | r => r
  | .cond c x y, σ => match boolOf? (σ.rd c) with
    | some b => if b then codeOf e run f n x σ else codeOf e run f n y σ
    | none => none
  | .block id c, σ => match codeOf e run f n c σ with
    | some (.exit j, σ') => if j = id then some (.normal, σ') else some (.exit j, σ')
    | r => r
  | .loop c, σ => iter (round e f c (codeOf e run f n c)) n σ
  | .exit id, σ => some (.exit id, σ)
  | .scope c, σ => codeOf e run f n c σ
  | .ret, σ => some (.ret, σ)
  | _, _ => none

/-- A slot's value as a result. -/
def outOne (σ : F) (nimp : Nat) : S → Option (V × F)
  | .lit v => some (.lit v, σ)
  | .val b t => some (.val b t, σ)
  | .agg b ts => some (.agg b ts, σ)
  | .nils => some (.nils, σ)
  | .vw k p off n ag => match σ.take (.vw k p off n ag) with
    | some (cs, σ') => if cs.all C.free then (match cellsToT cs with
        | some ts => match ofT (lentAll cs) ag ts with
          | .lit v => some (.lit v, σ')
          | .val b t => some (.val b t, σ')
          | .agg b l => some (.agg b l, σ')
          | _ => none
        | none => none) else some (.ov cs ag, σ')
    | none => none
  | .sub k p off sz' lo hi => match σ.take (.vw k p off 1 false) with
    | some ([.ow (.sl sz rows)], σ') => if lo = 0 ∧ sz' = sz ∧ hi ≤ rows.length ∧ 0 < rows.length then some (.ov [.ow (.sl sz (rows.take hi))] false, σ') else none
    | _ => none
  | .ptr k p off => if k < nimp then some (.ptr k p off, σ) else match look σ.ob k with
    | some o => if p = [(0, 0)] && off = 0 && o.box then some (.op o.cells, σ.del k) else none
    | none => none
  | _ => none

/-- So many slots from one on, as results. -/
def outMany (nimp : Nat) : Nat → Nat → F → Option (List V × F)
  | 0, _, σ => some ([], σ)
  | m + 1, i, σ => match outOne σ nimp (σ.at_ i) with
    | some (v, σ') => match outMany nimp m (i + 1) σ' with
      | some (vs, σ'') => some (v :: vs, σ'')
      | none => none
    | none => none

/-- Pointers among the results still stand. -/
def ptrsOk (σ : F) : Nat → List V → Bool
  | _, [] => true
  | i, .ptr k p off :: r => (match σ.at_ i with | .ptr k' p' off' => k == k' && p == p' && off == off' | _ => false) && ptrsOk σ (i + 1) r
  | i, _ :: r => ptrsOk σ (i + 1) r

def resSlots (e : Env) (σ : F) : List ResultVar → Option (List S)
  | [] => some []
  | .tmp t :: r => (resSlots e σ r).map (σ.at_ t :: ·)
  | .cell a t :: r => match σ.at_ a, e.ty t, resSlots e σ r with
    | .ptr k p off, some v, some rs => match σ.cells k p off v.cells with
      | some cs => some (F.view k p off v.cells v.agg cs :: rs)
      | none => none
    | _, _, _ => none

def enterObs (obs : List O) : Nat → List (Nat × O)
  | i => match obs with
    | [] => []
    | o :: r => (i, o) :: enterObs r (i + 1)

def leaveObs (σ : F) : Nat → Nat → List (Option O)
  | _, 0 => []
  | i, n + 1 => (look σ.ob i) :: leaveObs σ (i + 1) n

def packV : List V → V
  | [v] => v
  | vs => .tup vs

def runFn (e : Env) (run : FuncId → List S → List O → Option (V × List (Option O))) (f : FuncId) (n : Nat) (fn : Func) (args : List S) (obs : List O) : Option (V × List (Option O)) :=
  match fn.body with
  | some c =>
    match codeOf e run f n c { sl := args ++ List.replicate (fn.ntmps - args.length) .undef, ob := enterObs obs 0 } with
    | some (ex, σ) =>
      if ex = .normal ∨ ex = .ret then
        match resSlots e σ fn.results.toList with
        | some ss => match outMany obs.length ss.length σ.sl.length { σ with sl := σ.sl ++ ss } with
          | some (vs, σ') => if ptrsOk σ' σ.sl.length vs then some (packV vs, leaveObs σ' 0 obs.length) else none
          | none => none
        | none => none
      else none
    | none => none
  | none => none

def pcall (e : Env) (fs : FuncId → Option Func) : Nat → FuncId → List S → List O → Option (V × List (Option O))
  | 0, _, _, _ => none
  | k + 1, f, args, obs => match e.ext f with
    | some g => g args obs
    | none => match fs f with
      | some fn => runFn e (pcall e fs k) f k fn args obs
      | none => none

def isAggDesc : TypeDesc → Bool
  | .struct _ | .array .. => true
  | _ => false

def isAggValue : Value → Bool
  | .agg _ => true
  | _ => false

def tvOf (P : Program) (t : TypeId) : Option TV :=
  match P.info? t, P.underlying t with
  | some i, some d => match i.zero with
    | some z => match cellsT z.cells.toList with
      | some ts => if z.cells.size = i.size ∧ isAggValue z = isAggDesc d ∧ 0 < i.size then some { desc := d, cells := i.size, bytes := i.bytes, zero := ts, agg := isAggDesc d } else none
      | none => none
    | none => none
  | _, _ => none

end Go.Proofs.Ytmkhdnpnjjdgfaa.Ev
