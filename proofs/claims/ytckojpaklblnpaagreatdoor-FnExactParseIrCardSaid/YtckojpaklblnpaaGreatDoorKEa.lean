/- The evaluator and its soundness, part 1: Eval Rel Focus Place Slot Write State Tab. -/
import GoSem.Step
import Derived.Test.YtckojpaklblnpaaGreatDoorKPins
import Derived.RowKit
import Derived.Orders
import Derived.Laws.AppendOwn
import Derived.Below
/- A pure evaluator over a program's own code: values are trees; what owns memory of its own lies in objects of the frame. -/
set_option linter.unusedVariables false
namespace Go.Proofs.YtckojpaklblnpaaGreatDoor.Ev
open Go
inductive T where
  | lit (v : Value)
  | sl (sz : Nat) (rows : List (List T))
  deriving Inhabited
inductive C where
  | im (b : Bool) (t : T)
  | ow (t : T)
  | own (sz : Nat) (rows : List (List C))
  | hole
  deriving Inhabited
inductive S where
  | dead
  | undef
  | yn
  | nils
  | lit (v : Value)
  | val (b : Bool) (t : T)
  | agg (b : Bool) (ts : List T)
  | vw (k : Nat) (p : List (Nat × Nat)) (off n : Nat) (ag : Bool)
  | sub (k : Nat) (p : List (Nat × Nat)) (off sz lo hi : Nat)
  | ptr (k : Nat) (p : List (Nat × Nat)) (off : Nat)
  | pt (b : Bool) (ts : List T)
  | fn (g : FuncId) (caps : List S)
  | tup (xs : List S)
  deriving Inhabited
structure O where
  cells : List C
  box : Bool := false
  var : Bool := false
  deriving Inhabited
structure F where
  sl : List S
  ob : List (Nat × O)
  deriving Inhabited
inductive V where
  | lit (v : Value)
  | val (b : Bool) (t : T)
  | agg (b : Bool) (ts : List T)
  | nils
  | ov (cells : List C) (ag : Bool)
  | op (cells : List C)
  | ptr (k : Nat) (p : List (Nat × Nat)) (off : Nat)
  | tup (vs : List V)
  deriving Inhabited
inductive Ex where
  | normal
  | exit (id : Nat)
  | ret
  deriving Inhabited, DecidableEq
structure TV where
  desc : TypeDesc
  cells : Nat
  bytes : Nat
  zero : List T
  agg : Bool
  deriving Inhabited
inductive Sh where
  | any
  | sl (sz : Nat) (row : List Sh)
  | bx (row : List Sh)
  | pk (row : List Sh)
  deriving Inhabited
structure Env where
  ty : TypeId → Option TV
  how : FuncId → Nat → Nat
  ext : FuncId → Option (List S → List O → Option (V × List (Option O)))
  keep : FuncId → Nat → Option (List Nat)
  trim : FuncId → Nat → Option (List Nat) := fun _ _ => none
  un : FuncId → List (Nat × Nat × Nat) := fun _ => []
  join : FuncId → Nat → Option (List Nat) := fun _ _ => none
  gho : FuncId → Nat → Bool := fun _ _ => false
  nrm : FuncId → Nat → List (Nat × List Sh) := fun _ _ => []
  nrmX : FuncId → List (Nat × List Sh) := fun _ => []
  nrmJ : FuncId → Nat → List (Nat × List Sh) := fun _ _ => []
mutual
def C.toT : C → Option T
  | .im _ t => some t
  | .ow t => some t
  | .own sz rows => (rowsToT rows).map (.sl sz)
  | .hole => none
def cellsToT : List C → Option (List T)
  | [] => some []
  | c :: cs => match C.toT c, cellsToT cs with
    | some t, some ts => some (t :: ts)
    | _, _ => none
def rowsToT : List (List C) → Option (List (List T))
  | [] => some []
  | r :: rs => match cellsToT r, rowsToT rs with
    | some t, some ts => some (t :: ts)
    | _, _ => none
end
def T.isLit : T → Bool
  | .lit _ => true
  | .sl .. => false
def C.free : C → Bool
  | .im _ _ => true
  | .ow (.lit _) => true
  | _ => false
def C.copy : C → Bool
  | .im _ _ => true
  | .ow (.lit _) => true
  | .ow (.sl 0 []) => true
  | _ => false
mutual
def C.owned : C → Option T
  | .ow t => some t
  | .im _ (.lit v) => some (.lit v)
  | .own sz rows => (ownedRows rows).map (.sl sz)
  | _ => none
def ownedAll : List C → Option (List T)
  | [] => some []
  | c :: cs => match C.owned c, ownedAll cs with
    | some t, some ts => some (t :: ts)
    | _, _ => none
def ownedRows : List (List C) → Option (List (List T))
  | [] => some []
  | r :: rs => match ownedAll r, ownedRows rs with
    | some t, some ts => some (t :: ts)
    | _, _ => none
end
def litC (b : Bool) : T → C
  | .lit v => .ow (.lit v)
  | t => .im b t
mutual
def C.lent : C → Bool
  | .im b t => b && !t.isLit
  | .own _ rows => lentRows rows
  | _ => false
def lentAll : List C → Bool
  | [] => false
  | c :: cs => C.lent c || lentAll cs
def lentRows : List (List C) → Bool
  | [] => false
  | r :: rs => lentAll r || lentRows rs
end
def C.rows : C → Option (Nat × List (List C))
  | .ow (.sl sz rows) => some (sz, rows.map (·.map C.ow))
  | .own sz rows => some (sz, rows)
  | _ => none
def C.sz : C → Option Nat
  | .im _ (.sl sz _) => some sz
  | .ow (.sl sz _) => some sz
  | .own sz _ => some sz
  | _ => none
def C.len : C → Option Nat
  | .im _ (.sl _ rows) => some rows.length
  | .ow (.sl _ rows) => some rows.length
  | .own _ rows => some rows.length
  | _ => none
def C.row (c : C) (i : Nat) : Option (List C) :=
  match c with
  | .ow (.sl _ rows) => (rows[i]?).map (·.map C.ow)
  | .own _ rows => rows[i]?
  | _ => none
def C.setRow (c : C) (i : Nat) (r : List C) : Option C :=
  match c with
  | .ow (.sl sz rows) => match ownedAll r with
    | some ts => some (.ow (.sl sz (rows.set i ts)))
    | none => some (.own sz ((rows.map (·.map C.ow)).set i r))
  | .own sz rows => some (.own sz (rows.set i r))
  | _ => none
def getRow : List C → List (Nat × Nat) → Option (List C)
  | cs, [] => some cs
  | cs, (c, i) :: p => match cs[c]? with
    | some x => match x.row i with
      | some r => getRow r p
      | none => none
    | none => none
def setRow : List C → List (Nat × Nat) → List C → Option (List C)
  | _, [], new => some new
  | cs, (c, i) :: p, new => match cs[c]? with
    | some x => match x.row i with
      | some r => match setRow r p new with
        | some r' => match x.setRow i r' with
          | some x' => some (cs.set c x')
          | none => none
        | none => none
      | none => none
    | none => none
def setRange (cs : List C) (off : Nat) (new : List C) : List C := cs.take off ++ new ++ cs.drop (off + new.length)
def look (ob : List (Nat × O)) (k : Nat) : Option O :=
  match ob with
  | [] => none
  | (j, o) :: r => if j = k then some o else look r k
def drop_ (ob : List (Nat × O)) (k : Nat) : List (Nat × O) :=
  match ob with
  | [] => []
  | (j, x) :: r => if j = k then r else (j, x) :: drop_ r k
def put_ (ob : List (Nat × O)) (k : Nat) (o : O) : List (Nat × O) :=
  match ob with
  | [] => []
  | (j, x) :: r => if j = k then (k, o) :: r else (j, x) :: put_ r k o
def through (p : List (Nat × Nat)) (off n : Nat) : List (Nat × Nat) → Bool
  | [] => false
  | (c, i) :: q => match p with
    | [] => off ≤ c && c < off + n
    | (c', i') :: p' => c == c' && i == i' && through p' off n q
mutual
def killAll (k : Nat) : S → S
  | .vw j p o n a => if j = k then .dead else .vw j p o n a
  | .sub j p o z l h => if j = k then .dead else .sub j p o z l h
  | .ptr j p o => if j = k then .dead else .ptr j p o
  | .fn g caps => .fn g (killAlls k caps)
  | .tup xs => .tup (killAlls k xs)
  | s => s
def killAlls (k : Nat) : List S → List S
  | [] => []
  | s :: r => killAll k s :: killAlls k r
end
mutual
def killAt (k : Nat) (p : List (Nat × Nat)) (off n : Nat) : S → S
  | .vw j q o m a => if j = k && ((q == p && (off < o + m && o < off + n)) || through p off n q) then .dead else .vw j q o m a
  | .sub j q o z l h => if j = k && ((q == p && (off < o + 1 && o < off + n)) || through p off n q) then .dead else .sub j q o z l h
  | .ptr j q o => if j = k && through p off n q then .dead else .ptr j q o
  | .fn g caps => .fn g (killAts k p off n caps)
  | .tup xs => .tup (killAts k p off n xs)
  | s => s
def killAts (k : Nat) (p : List (Nat × Nat)) (off n : Nat) : List S → List S
  | [] => []
  | s :: r => killAt k p off n s :: killAts k p off n r
end
mutual
def killThru (k : Nat) (p : List (Nat × Nat)) (off n : Nat) : S → S
  | .vw j q o m a => if j = k && through p off n q then .dead else .vw j q o m a
  | .sub j q o z l h => if j = k && through p off n q then .dead else .sub j q o z l h
  | .ptr j q o => if j = k && through p off n q then .dead else .ptr j q o
  | .fn g caps => .fn g (killThrus k p off n caps)
  | .tup xs => .tup (killThrus k p off n xs)
  | s => s
def killThrus (k : Nat) (p : List (Nat × Nat)) (off n : Nat) : List S → List S
  | [] => []
  | s :: r => killThru k p off n s :: killThrus k p off n r
end
mutual
def rekey (k k' : Nat) : S → S
  | .vw j p o n a => .vw (if j = k then k' else j) p o n a
  | .sub j p o z l h => .sub (if j = k then k' else j) p o z l h
  | .ptr j p o => .ptr (if j = k then k' else j) p o
  | .fn g caps => .fn g (rekeys k k' caps)
  | .tup xs => .tup (rekeys k k' xs)
  | s => s
def rekeys (k k' : Nat) : List S → List S
  | [] => []
  | s :: r => rekey k k' s :: rekeys k k' r
end
def F.at_ (σ : F) (i : Nat) : S := σ.sl.getD i .dead
def F.put (σ : F) (d : Option Nat) (s : S) : F := match d with | some d => { σ with sl := σ.sl.set d s } | none => σ
def keyOf (d j : Nat) : Nat := 64 + 8 * d + j
def newKey (d : Option Nat) (k : Nat) : Bool := match d with | some d => k / 8 == 8 + d | none => false
def F.new (σ : F) (k : Nat) (o : O) : F := { sl := killAlls k σ.sl, ob := (k, o) :: drop_ σ.ob k }
def F.del (σ : F) (k : Nat) : F := { sl := killAlls k σ.sl, ob := drop_ σ.ob k }
def cellT : Value → Option T
  | .slice none 0 0 => some (.sl 0 [])
  | .slice .. => none
  | .pointer (some _) => none
  | .map (some _) => none
  | .chan (some _) => none
  | .func .. => none
  | .agg _ => none
  | .tuple _ => none
  | v => some (.lit v)
def cellsT : List Value → Option (List T)
  | [] => some []
  | v :: r => match cellT v, cellsT r with
    | some t, some ts => some (t :: ts)
    | _, _ => none
def constS : Value → S
  | .slice none 0 0 => .nils
  | .agg cs => match cellsT cs.toList with | some ts => .agg false ts | none => .dead
  | v => match cellT v with | some (.lit v) => .lit v | _ => .dead
def F.rd (σ : F) : Operand → S
  | .tmp t => σ.at_ t
  | .const v => constS v
  | .func f => .fn f []
  | .global _ => .dead
def F.cells (σ : F) (k : Nat) (p : List (Nat × Nat)) (off n : Nat) : Option (List C) :=
  match look σ.ob k with
  | some o => match getRow o.cells p with
    | some r => if off + n ≤ r.length then some ((r.drop off).take n) else none
    | none => none
  | none => none
def F.write (σ : F) (k : Nat) (p : List (Nat × Nat)) (off : Nat) (new : List C) : Option F :=
  match look σ.ob k with
  | some o =>
    if p.isEmpty then none else
    match getRow o.cells p with
    | some r => if off + new.length ≤ r.length then
        match setRow o.cells p (setRange r off new) with
        | some cs => some { sl := killAts k p off new.length σ.sl, ob := put_ σ.ob k { o with cells := cs } }
        | none => none
      else none
    | none => none
  | none => none
def F.swap (σ : F) (k : Nat) (p : List (Nat × Nat)) (off : Nat) (new : List C) : Option F :=
  match look σ.ob k with
  | some o =>
    if p.isEmpty then none else
    match getRow o.cells p with
    | some r => if off + new.length ≤ r.length then
        match setRow o.cells p (setRange r off new) with
        | some cs => some { sl := killThrus k p off new.length σ.sl, ob := put_ σ.ob k { o with cells := cs } }
        | none => none
      else none
    | none => none
  | none => none
def F.freeOf (σ : F) : S → Option (List T)
  | .lit v => some [.lit v]
  | .val _ t => some [t]
  | .agg _ ts => some ts
  | .nils => some [.sl 0 []]
  | .vw k p off n _ => match σ.cells k p off n with | some cs => cellsToT cs | none => none
  | .sub k p off sz lo hi => match σ.cells k p off 1 with
    | some [c] => match c.toT with
      | some (.sl sz' rows) => if sz' = sz ∧ lo ≤ hi ∧ hi ≤ rows.length then some [.sl sz ((rows.drop lo).take (hi - lo))] else none
      | _ => none
    | _ => none
  | _ => none
def F.free1 (σ : F) (s : S) : Option T :=
  match s with
  | .agg .. => none
  | .vw _ _ _ _ true => none
  | s => match σ.freeOf s with
    | some [t] => some t
    | _ => none
def F.take (σ : F) : S → Option (List C × F)
  | .lit v => some ([.ow (.lit v)], σ)
  | .val b t => some ([litC b t], σ)
  | .agg b ts => some (ts.map (litC b), σ)
  | .nils => some ([.ow (.sl 0 [])], σ)
  | .vw k p off n _ => match look σ.ob k with
    | some o =>
      match σ.cells k p off n with
      | some cs =>
        if cs.all C.copy then some (cs, σ)
        else if !o.box && p.isEmpty && off = 0 && n = o.cells.length then some (cs, σ.del k)
        else if p.isEmpty then none
        else match getRow o.cells p with
          | some r => match setRow o.cells p (setRange r off (cs.map fun c => if c.copy then c else .hole)) with
            | some cs' => some (cs, { sl := killAts k p off n σ.sl, ob := put_ σ.ob k { o with cells := cs' } })
            | none => none
          | none => none
      | none => none
    | none => none
  | _ => none
def isAgg (e : Env) (t : TypeId) : Bool := match e.ty t with | some v => v.agg | none => false
def ofT (b ag : Bool) (ts : List T) : S := if ag then .agg b ts else match ts with | [.lit v] => .lit v | [t] => .val b t | _ => .dead
def F.view (k : Nat) (p : List (Nat × Nat)) (off n : Nat) (ag : Bool) (cs : List C) : S :=
  if cs.all C.free then match cellsToT cs with | some ts => ofT (lentAll cs) ag ts | none => .dead
  else .vw k p off n ag
def F.made (σ : F) (d : Option Nat) (j : Nat) (ag : Bool) (cs : List C) : F × S :=
  if cs.all C.free then (σ, match cellsToT cs with | some ts => ofT (lentAll cs) ag ts | none => .dead)
  else match d with
    | some d => (σ.new (keyOf d j) { cells := cs }, .vw (keyOf d j) [] 0 cs.length ag)
    | none => (σ, .dead)
def intOf? : S → Option Int
  | .lit (.int _ n) => some n
  | _ => none
def boolOf? : S → Option Bool
  | .lit (.bool b) => some b
  | _ => none
def wrap64 := Go.RowKit.wrap64
def liT (v : Value) : S := .lit v
def binInt (op : BinOp) (k : IntKind) (a b : Int) : Option Value :=
  match op with
  | .add => some (.int k (k.wrap (a + b)))
  | .sub => some (.int k (k.wrap (a - b)))
  | .mul => some (.int k (k.wrap (a * b)))
  | .quo => if b = 0 then none else some (.int k (k.wrap (Int.tdiv a b)))
  | .rem => if b = 0 then none else some (.int k (Int.tmod a b))
  | .and => some (.int k (bits .and k a b))
  | .or => some (.int k (bits .or k a b))
  | .xor => some (.int k (bits .xor k a b))
  | .andNot => some (.int k (bits .andNot k a b))
  | .eql => some (.bool (decide (a = b)))
  | .neq => some (.bool (!decide (a = b)))
  | .lss => some (.bool (decide (a < b)))
  | .leq => some (.bool (decide (a ≤ b)))
  | .gtr => some (.bool (decide (a > b)))
  | .geq => some (.bool (decide (a ≥ b)))
  | _ => none
def binStr (op : BinOp) (a b : ByteArray) : Option Value :=
  match op with
  | .add => if a.size + b.size ≤ 9223372036854775807 then some (.string (a ++ b)) else none
  | .eql => some (.bool (decide (a = b)))
  | .neq => some (.bool (!decide (a = b)))
  | .lss => some (.bool (Op.bytesLess a.toList b.toList))
  | .leq => some (.bool (Op.bytesLess a.toList b.toList || decide (a = b)))
  | .gtr => some (.bool (!(Op.bytesLess a.toList b.toList || decide (a = b))))
  | .geq => some (.bool (!Op.bytesLess a.toList b.toList))
  | _ => none
def binOp_ (op : BinOp) (isBool : Bool) (x y : S) : Option S :=
  match x, y with
  | .lit (.int k a), .lit (.int k' b) =>
    match op with
    | .shl => if b < 0 then none else some (liT (.int k (k.wrap (a * 2 ^ min b.toNat k.bits))))
    | .shr => if b < 0 then none else some (liT (.int k (a / 2 ^ min b.toNat k.bits)))
    | op => if k = k' then (binInt op k a b).map liT else none
  | .lit (.string a), .lit (.string b) => (binStr op a b).map liT
  | .lit (.bool a), .lit (.bool b) => if isBool then (match op with
    | .eql => some (liT (.bool (a == b)))
    | .neq => some (liT (.bool (!(a == b))))
    | _ => none) else none
  | _, _ => none
def unOp_ (op : UnOp) (x : S) : Option S :=
  match op, x with
  | .not, .lit (.bool b) => some (liT (.bool (!b)))
  | .neg, .lit (.int k n) => some (liT (.int k (k.wrap (0 - n))))
  | .xor, .lit (.int k n) => some (liT (.int k (bits .xor k (if k.signed then -1 else k.max) n)))
  | _, _ => none
def bytesT (s : ByteArray) : T := .sl 1 (s.data.toList.map fun b => [.lit (.int .u8 b.toNat)])
def byteOf : List T → Option UInt8
  | [.lit (.int .u8 n)] => some (UInt8.ofNat n.toNat)
  | _ => none
def bytesOf : List (List T) → Option (List UInt8)
  | [] => some []
  | r :: rs => match byteOf r, bytesOf rs with
    | some b, some bs => some (b :: bs)
    | _, _ => none
def lenS (σ : F) : S → Option Nat
  | .nils => some 0
  | .lit (.string s) => some s.size
  | .val _ (.sl _ rows) => some rows.length
  | .vw k p off 1 false => match σ.cells k p off 1 with | some [c] => c.len | _ => none
  | .sub _ _ _ _ lo hi => some (hi - lo)
  | _ => none
def maxBytes : Nat := 140737488355328
def F.source (σ : F) (m : Nat) (x : S) : Option (List (List C) × F) :=
  match x with
  | .nils => some ([], σ)
  | .lit (.string s) => if m = 1 then some (s.data.toList.map (fun b => [.ow (.lit (.int .u8 b.toNat))]), σ) else none
  | .val b (.sl sz rows) => if sz = m ∨ rows = [] then some (rows.map (·.map (litC b)), σ) else none
  | .vw k p off 1 false => match σ.cells k p off 1 with
    | some [c] => match c with
      | .im b (.sl sz rows) => if sz = m ∨ rows = [] then some (rows.map (·.map (litC b)), σ) else none
      | _ => match c.rows with
        | some (sz, rows) =>
          if sz = m ∨ rows = [] then
            (if rows.all (·.all C.free) then some (rows, σ)
            else match σ.take x with
              | some (_, σ') => some (rows, σ')
              | none => none)
          else none
        | none => none
    | _ => none
  | .sub k p off z lo hi => match σ.free1 (.sub k p off z lo hi) with
    | some (.sl sz rows) => if (sz = m ∨ rows = []) ∧ rows.all (·.all T.isLit) then some (rows.map (·.map (litC false)), σ) else none
    | _ => none
  | _ => none
def packRows (sz : Nat) (rows : List (List C)) : C :=
  match ownedRows rows with
  | some l => .ow (.sl sz l)
  | none => .own sz rows
def appendTo (c : C) (m : Nat) (rows : List (List C)) : Option C :=
  match c with
  | .ow (.sl sz old) => if sz = m ∨ sz = 0 then
      (match ownedRows rows with
       | some l => some (.ow (.sl m (old ++ l)))
       | none => some (.own m (old.map (·.map C.ow) ++ rows)))
    else none
  | .own sz old => if sz = m ∨ sz = 0 then some (.own m (old ++ rows)) else none
  | _ => none
def S.ag : S → Bool
  | .agg .. => true
  | .vw _ _ _ _ b => b
  | _ => false
def F.append (σ : F) (e : Env) (d : Option Nat) (st : TypeId) (a : Operand) (src : Nat → F → Option (List (List C) × F)) : Option F :=
  match d, e.ty st with
  | some d, some { desc := .slice el, .. } => match e.ty el with
    | some v => if 0 < v.bytes then match src v.cells σ with
      | some (rows, σ1) =>
        match (if (σ1.rd a).ag then none else σ1.take (σ1.rd a)) with
        | some ([c], σ2) => match appendTo c v.cells rows with
          | some c' => match c'.len with
            | some n => if n * v.bytes ≤ maxBytes then
                (let σ3 := σ2.new (keyOf d 0) { cells := [c'] }
                 some (σ3.put (some d) (.vw (keyOf d 0) [] 0 1 false)))
              else none
            | none => none
          | none => none
        | _ => none
      | none => none
      else none
    | none => none
  | _, _ => none
/-! ### forgetting -/
mutual
def S.ok (tv tp : Nat → List (Nat × Nat) → Bool) : S → Bool
  | .vw k p _ _ _ => tv k p
  | .sub k p _ _ _ _ => tv k p
  | .ptr k p _ => tp k p
  | .fn _ caps => S.oks tv tp caps
  | .tup xs => S.oks tv tp xs
  | _ => true
def S.oks (tv tp : Nat → List (Nat × Nat) → Bool) : List S → Bool
  | [] => true
  | s :: r => S.ok tv tp s && S.oks tv tp r
end
def sift (tv tp : Nat → List (Nat × Nat) → Bool) (s : S) : S := if S.ok tv tp s then s else .dead
def pick : List (Nat × O) → List Nat → List (Nat × O)
  | _, [] => []
  | ob, k :: r => match look ob k with
    | some o => (k, o) :: pick (drop_ ob k) r
    | none => pick ob r
def maskSl (ob : List (Nat × O)) (ss : List Nat) : Nat → List S → List S
  | _, [] => []
  | i, s :: r => (if ss.contains i then sift (fun k _ => (look ob k).isSome) (fun k _ => (look ob k).isSome) s else .dead) :: maskSl ob ss (i + 1) r
def F.only (σ : F) (ss ks : List Nat) : F := { sl := maskSl (pick σ.ob ks) ss 0 σ.sl, ob := pick σ.ob ks }
mutual
def S.keys : S → List Nat
  | .vw k _ _ _ _ => [k]
  | .sub k _ _ _ _ _ => [k]
  | .ptr k _ _ => [k]
  | .fn _ caps => S.keyss caps
  | .tup xs => S.keyss xs
  | _ => []
def S.keyss : List S → List Nat
  | [] => []
  | s :: r => S.keys s ++ S.keyss r
end
def F.keep (σ : F) (m : Option (List Nat)) : F :=
  match m with
  | none => σ
  | some ss => σ.only ss ((σ.ob.map (·.1)).filter (· < 64) ++ S.keyss (ss.map σ.at_))
def rowOk (o : Option O) : Bool :=
  match o with
  | some o => match o.cells with
    | c :: _ => (c.row 0).isSome
    | [] => false
  | none => false
def stillV (d : Option Nat) (ks : List Nat) (ob : List (Nat × O)) (k : Nat) (p : List (Nat × Nat)) : Bool :=
  !ks.contains k || (p.isEmpty && !newKey d k && (look ob k).isSome)
def stillP (d : Option Nat) (ks : List Nat) (ob : List (Nat × O)) (k : Nat) (p : List (Nat × Nat)) : Bool :=
  !ks.contains k || (p == [(0, 0)] && !newKey d k && rowOk (look ob k))
def dropAll (ks : List Nat) (ob : List (Nat × O)) : List (Nat × O) := ob.filter fun x => !ks.contains x.1
def apartL (a b : List Nat) : Bool := a.all fun x => !b.contains x
/-! ### strides of what is empty -/
mutual
def nrmT : Sh → T → T
  | .sl sz sh, .sl z rows => .sl (if z = 0 ∧ rows = [] then sz else z) (nrmRows sh rows)
  | _, t => t
def nrmTs : List Sh → List T → List T
  | s :: ss, t :: ts => nrmT s t :: nrmTs ss ts
  | _, ts => ts
def nrmRows (sh : List Sh) : List (List T) → List (List T)
  | [] => []
  | r :: rs => nrmTs sh r :: nrmRows sh rs
end
mutual
def nrmC : Sh → C → C
  | sh, .im b t => .im b (nrmT sh t)
  | sh, .ow t => .ow (nrmT sh t)
  | .sl _ sh, .own z rows => packRows z (nrmCRows sh rows)
  | .bx sh, .own z rows => .own z (nrmCRows sh rows)
  | .pk sh, .own z rows => packRows z (nrmCRows sh rows)
  | _, c => c
def nrmCs : List Sh → List C → List C
  | s :: ss, t :: ts => nrmC s t :: nrmCs ss ts
  | _, ts => ts
def nrmCRows (sh : List Sh) : List (List C) → List (List C)
  | [] => []
  | r :: rs => nrmCs sh r :: nrmCRows sh rs
end
def F.told (σ : F) (k : Nat) (sh : List Sh) : F := match look σ.ob k with
  | some o => { σ with ob := put_ σ.ob k { o with cells := nrmCs sh o.cells } }
  | none => σ
def F.tidy (σ : F) (x : Nat × List Sh) : F := match σ.at_ x.1 with
  | .nils => (match x.2 with
    | [.sl sz _] => (σ.new (keyOf x.1 0) { cells := [.ow (.sl sz [])], var := true }).put (some x.1) (.vw (keyOf x.1 0) [] 0 1 false)
    | _ => σ)
  | .val b t => (match x.2 with
    | [s] => σ.put (some x.1) (.val b (nrmT s t))
    | _ => σ)
  | .agg b ts => σ.put (some x.1) (.agg b (nrmTs x.2 ts))
  | .vw k [] _ _ _ => σ.told k x.2
  | .ptr k _ _ => σ.told k [.bx x.2]
  | _ => σ
def F.tidys (σ : F) : List (Nat × List Sh) → F
  | [] => σ
  | x :: r => (σ.tidy x).tidys r
/-! ### calls -/
mutual
def V.lent : V → Bool
  | .lit _ => false
  | .val b t => b && !t.isLit
  | .agg b ts => b && ts.any fun t => !t.isLit
  | .nils => false
  | .ov cells _ => lentAll cells
  | .op cells => lentAll cells
  | .ptr .. => false
  | .tup vs => lentVs vs
def lentVs : List V → Bool
  | [] => false
  | v :: r => v.lent || lentVs r
end
def lentO : List (Option O) → Bool
  | [] => false
  | some o :: r => lentAll o.cells || lentO r
  | none :: r => lentO r
def F.push (σ : F) (s : S) : F := { σ with sl := σ.sl ++ [s] }
def F.lend (σ : F) (t tk : Nat) : Option (F × List (Nat × Nat)) :=
  match σ.at_ t with
  | .vw k p off n ag => match look σ.ob k with
    | some o =>
      if !o.box && p.isEmpty && off = 0 && n = o.cells.length then some (σ, [])
      else match σ.cells k p off n with
        | some cs => match σ.swap k p off (cs.map fun c => if c.free then c else .hole) with
          | some σ1 => if (look σ1.ob tk).isNone && 64 ≤ tk then
              some (((σ1.push (.vw k p off n true)).new tk { cells := cs }).put (some t) (.vw tk [] 0 n ag), [(σ.sl.length, tk)]) else none
          | none => none
        | none => none
    | none => none
  | _ => some (σ, [])
def F.unlend (σ : F) (pl : Nat × Nat) : Option F :=
  match look σ.ob pl.2 with
  | none => some σ
  | some o => match σ.at_ pl.1 with
    | .vw k p off n true => if o.cells.length = n ∧ k ≠ pl.2 then (σ.del pl.2).swap k p off o.cells else none
    | _ => none
def unlendAll : F → List (Nat × Nat) → Option F
  | σ, [] => some σ
  | σ, pl :: r => match unlendAll σ r with
    | some σ1 => σ1.unlend pl
    | none => none
def lendArgs (how : Nat → Nat) (n0 : Nat) : Nat → Nat → F → Option (F × List (Nat × Nat))
  | 0, _, σ => some (σ, [])
  | m + 1, i, σ =>
    if how i = 1 then
      (match σ.lend (n0 + i) (keyOf (100000 + i) 0) with
       | some (σ1, pl) => match lendArgs how n0 m (i + 1) σ1 with
         | some (σ2, pls) => some (σ2, pl ++ pls)
         | none => none
       | none => none)
    else lendArgs how n0 m (i + 1) σ
def F.borrow (σ : F) (s : S) : Option (S × List Nat) :=
  match s with
  | .vw k p off n ag => match σ.freeOf (.vw k p off n ag) with
    | some ts => some (ofT true ag ts, [k])
    | none => none
  | .sub k p off sz lo hi => match σ.freeOf (.sub k p off sz lo hi) with
    | some ts => some (ofT true false ts, [k])
    | none => none
  | s => some (s, [])
def borrowAll (how : Nat → Nat) (σ : F) : Nat → List S → Option (List S × List Nat)
  | _, [] => some ([], [])
  | i, s :: r => match (if how i = 1 then some (s, []) else σ.borrow s), borrowAll how σ (i + 1) r with
    | some (x, b), some (xs, bs) => some (x :: xs, b ++ bs)
    | _, _ => none
def numOf (keys : List Nat) (k : Nat) : Nat :=
  match keys with
  | [] => 0
  | j :: r => if j = k then 0 else numOf r k + 1
mutual
def S.renum (g : Nat → Nat) : S → S
  | .vw k p o n a => .vw (g k) p o n a
  | .sub k p o z l h => .sub (g k) p o z l h
  | .ptr k p o => .ptr (g k) p o
  | .fn f caps => .fn f (S.renums g caps)
  | .tup xs => .tup (S.renums g xs)
  | s => s
def S.renums (g : Nat → Nat) : List S → List S
  | [] => []
  | s :: r => S.renum g s :: S.renums g r
end
def dedup : List Nat → List Nat
  | [] => []
  | k :: r => if r.contains k then dedup r else k :: dedup r
def looks (ob : List (Nat × O)) : List Nat → Option (List O)
  | [] => some []
  | k :: r => match look ob k, looks ob r with
    | some o, some os => some (o :: os)
    | _, _ => none
def backs : List Nat → List (Option O) → List (Nat × O)
  | k :: ks, some o :: os => (k, o) :: backs ks os
  | _ :: ks, none :: os => backs ks os
  | _, _ => []
def F.back (σ : F) (ks : List Nat) (os : List (Option O)) : F :=
  { sl := σ.sl.map (sift (stillV none ks (backs ks os)) (stillP none ks (backs ks os))), ob := backs ks os ++ dropAll ks σ.ob }
def recvOne (σ : F) (keys : List Nat) (d j : Nat) : V → Option F
  | .lit v => some (σ.push (.lit v))
  | .val b t => some (σ.push (.val b t))
  | .agg b ts => some (σ.push (.agg b ts))
  | .nils => some (σ.push .nils)
  | .ov cells ag => some ((σ.new (keyOf d j) { cells }).push (.vw (keyOf d j) [] 0 cells.length ag))
  | .op cells => some ((σ.new (keyOf d j) { cells, box := true }).push (.ptr (keyOf d j) [(0, 0)] 0))
  | .ptr k p off => match keys[k]? with
    | some key => if newKey (some d) key then none else some (σ.push (.ptr key p off))
    | none => none
  | .tup _ => none
def recvMany (keys : List Nat) (d : Nat) : F → Nat → List V → Option F
  | σ, _, [] => some σ
  | σ, j, v :: r => if j < 8 then
      (match recvOne σ keys d j v with
       | some σ' => recvMany keys d σ' (j + 1) r
       | none => none) else none
def recvAll (σ : F) (keys : List Nat) (d : Option Nat) (v : V) : Option F :=
  match d with
  | none => some σ
  | some d => if d < 100000 then (match v with
    | .tup vs => recvMany keys d σ 0 vs
    | v => recvOne σ keys d 0 v) else none
def F.done (σ : F) (n0 n1 : Nat) (d : Option Nat) (v : V) : Option F :=
  if σ.ob.all (fun x => decide (x.1 < keyOf 100000 0)) then
    match d with
    | none => some { σ with sl := σ.sl.take n0 }
    | some d => match v with
      | .tup _ => some (F.put { σ with sl := σ.sl.take n0 } (some d) (.tup (σ.sl.drop n1)))
      | _ => match σ.sl.drop n1 with
        | [s] => some (F.put { σ with sl := σ.sl.take n0 } (some d) s)
        | _ => none
  else none
def F.call (σ : F) (e : Env) (run : FuncId → List S → List O → Option (V × List (Option O))) (d : Option Nat) (f : FuncId) (args : List S) : Option F :=
  let n0 := σ.sl.length
  match lendArgs (e.how f) n0 args.length 0 { σ with sl := σ.sl ++ args } with
  | some (σ1, pls) =>
    match borrowAll (e.how f) σ1 0 ((σ1.sl.drop n0).take args.length) with
    | some (xs, bs) =>
      let ks := dedup (S.keyss xs)
      match looks σ1.ob ks with
      | some obs =>
        if apartL ks bs ∧ obs.length < 64 then
          (match run f (S.renums (numOf ks) xs) obs with
           | some (v, os) =>
             if (bs.isEmpty || (!v.lent && !lentO os)) ∧ os.length = obs.length then
               (match recvAll (σ1.back ks os) ks d v with
                | some σ2 => match unlendAll σ2 pls with
                  | some σ3 => σ3.done n0 σ1.sl.length d v
                  | none => none
                | none => none)
             else none
           | none => none)
        else none
      | none => none
    | none => none
  | none => none
def elemAt (w k : Nat) (p : List (Nat × Nat)) (off : Nat) (c : C) (i : Nat) : Option S :=
  match c with
  | .im b (.sl sz rows) => if sz = w then (rows[i]?).map (.pt b) else none
  | c => if c.sz = some w then (c.row i).map (fun _ => .ptr k (p ++ [(off, i)]) 0) else none
def addrOf (e : Env) (σ : F) (t : TypeId) (x i : S) : Option S :=
  match intOf? i, e.ty t with
  | some n, some v =>
    if n < 0 then none else
    match v.desc with
    | .slice el => match e.ty el with
      | some w => match x with
        | .val b (.sl sz rows) => if sz = w.cells then (rows[n.toNat]?).map (.pt b) else none
        | .vw k p off 1 false => match σ.cells k p off 1 with
          | some [c] => elemAt w.cells k p off c n.toNat
          | _ => none
        | .sub k p off sz lo hi => if lo + n.toNat < hi ∧ sz = w.cells then
            (match σ.cells k p off 1 with
             | some [c] => elemAt w.cells k p off c (lo + n.toNat)
             | _ => none)
          else none
        | _ => none
      | none => none
    | .array len el => match e.ty el with
      | some w => if n.toNat < len then
          (match x with
           | .ptr k p off => some (.ptr k p (off + n.toNat * w.cells))
           | .pt b ts => some (.pt b (ts.drop (n.toNat * w.cells)))
           | _ => none)
        else none
      | none => none
    | _ => none
  | _, _ => none
def szOk (e : Env) (el : TypeId) (sz n : Nat) : Bool :=
  match e.ty el with
  | some w => n = 0 || w.cells = sz
  | none => false
def sliceIt (e : Env) (σ : F) (t : TypeId) (x : S) (lo hi : Option Int) : Option S :=
  match e.ty t, lenS σ x with
  | some v, some n =>
    let l := lo.getD 0
    let h := hi.getD n
    if 0 ≤ l ∧ l ≤ h ∧ h ≤ n then
      match v.desc, x with
      | .slice el, .nils => if (e.ty el).isSome then some .nils else none
      | .string, .lit (.string s) => some (liT (.string (s.extract l.toNat h.toNat)))
      | .slice el, .val b (.sl sz rows) => if szOk e el sz n then some (.val b (.sl sz ((rows.drop l.toNat).take (h.toNat - l.toNat)))) else none
      | .slice el, .vw k p off 1 false => match σ.cells k p off 1 with
        | some [c] => match c.sz with
          | some sz => if szOk e el sz n then some (.sub k p off sz l.toNat h.toNat) else none
          | none => none
        | _ => none
      | .slice el, .sub k p off sz lo' _ => if szOk e el sz n then some (.sub k p off sz (lo' + l.toNat) (lo' + h.toNat)) else none
      | _, _ => none
    else none
  | _, _ => none
def optInt (σ : F) : Option Operand → Option (Option Int)
  | none => some none
  | some x => (intOf? (σ.rd x)).map some
def partCells (σ : F) (xs : List (Nat × Operand)) : Option (List (Nat × List C) × F) :=
  match xs with
  | [] => some ([], σ)
  | (i, x) :: r => match σ.take (σ.rd x) with
    | some (cs, σ') => match partCells σ' r with
      | some (l, σ'') => some ((i, cs) :: l, σ'')
      | none => none
    | none => none
def fieldPlaces (e : Env) : List Go.Field → Option (List (Nat × Nat))
  | [] => some []
  | f :: r => match e.ty f.type, fieldPlaces e r with
    | some w, some l => some ((f.offset, w.cells) :: l)
    | _, _ => none
def placesOf (e : Env) : TypeDesc → Option (Nat → Option (Nat × Nat))
  | .struct fs => (fieldPlaces e fs.toList).map fun l i => l[i]?
  | .array _ el => (e.ty el).map fun w i => some (i * w.cells, w.cells)
  | _ => none
def fillAt (place : Nat → Option (Nat × Nat)) (cells : List C) : List (Nat × List C) → Option (List C)
  | [] => some cells
  | (i, cs) :: r => match place i with
    | some (off, sz) => if cs.length = sz ∧ off + sz ≤ cells.length then fillAt place (setRange cells off cs) r else none
    | none => none
def chunk (sz : Nat) : Nat → List C → List (List C)
  | 0, _ => []
  | n + 1, cs => cs.take sz :: chunk sz n (cs.drop sz)
def boxKeep (σ : F) (d : Nat) (x : Operand) (s : S) (n : Nat) : F := match x, s with
  | .tmp t, .vw _ _ _ _ true => if t = d then σ else σ.put (some t) (.vw (keyOf d 0) [(0, 0)] 0 n true)
  | _, _ => σ
def rowLen (ob : List (Nat × O)) (k : Nat) (p : List (Nat × Nat)) : Option Nat := match look ob k with
  | some o => match getRow o.cells p with
    | some r => some r.length
    | none => none
  | none => none
def storeKeep (σ : F) (x : Operand) (s : S) (k : Nat) (p : List (Nat × Nat)) (off n : Nat) : F := match x, s with
  | .tmp t, .vw _ [] 0 _ ag => (match σ.at_ t, rowLen σ.ob k p with
    | .dead, some m => if off + n ≤ m ∧ (ag = true ∨ n = 1) then σ.put (some t) (.vw k p off n ag) else σ
    | _, _ => σ)
  | _, _ => σ
def opOf (e : Env) (run : FuncId → List S → List O → Option (V × List (Option O))) (σ : F) (o : Oper) : Option F :=
  match o.op with
  | .move x => match σ.rd x with
    | .dead => some (σ.put o.dst .dead)
    | s => some (σ.put o.dst s)
  | .assign x => match σ.rd x, o.dst with
    | .vw k [] 0 n ag, some d => match look σ.ob k with
      | some ob => if !ob.box && !ob.var && 64 ≤ k && n = ob.cells.length && k ≠ keyOf d 0 then
          (let σ1 := σ.del (keyOf d 0)
           some (F.put { sl := rekeys k (keyOf d 0) σ1.sl, ob := (keyOf d 0, { ob with var := true }) :: drop_ σ1.ob k } (some d) (.vw (keyOf d 0) [] 0 n ag)))
        else some (σ.put (some d) (.vw k [] 0 n ag))
      | none => none
    | s, d => some (σ.put d s)
  | .pick c a b => match boolOf? (σ.rd c) with
    | some x => some (σ.put o.dst (if x then σ.rd a else σ.rd b))
    | none => none
  | .alloc t => match o.dst, e.ty t with
    | some d, some v => some ((σ.new (keyOf d 0) { cells := [.own v.cells [v.zero.map .ow]], box := true }).put (some d) (.ptr (keyOf d 0) [(0, 0)] 0))
    | _, _ => none
  | .box _ x => match o.dst, σ.rd x with
    | some d, s => match σ.take s with
      | some (cs, σ') => if 0 < cs.length then some (boxKeep ((σ'.new (keyOf d 0) { cells := [.own cs.length [cs]], box := true }).put (some d) (.ptr (keyOf d 0) [(0, 0)] 0)) d x s cs.length) else none
      | none => none
    | _, _ => none
  | .build t parts => match e.ty t with
    | some v => match placesOf e v.desc, partCells σ parts.toList with
      | some place, some (l, σ') =>
        match fillAt place (v.zero.map .ow) l with
        | some cs => let r := σ'.made o.dst 0 true cs; some (r.1.put o.dst r.2)
        | none => none
      | _, _ => none
    | none => none
  | .buildSlice t len parts => match e.ty t, o.dst with
    | some { desc := .slice el, .. }, some d => match e.ty el with
      | some v => match partCells σ parts.toList with
        | some (l, σ') => if len * v.cells ≤ 16777216 then
          match fillAt (fun i => some (i * v.cells, v.cells)) ((List.replicate len (v.zero.map C.ow)).flatten) l with
          | some cs => some ((σ'.new (keyOf d 0) { cells := [packRows v.cells (chunk v.cells len cs)] }).put o.dst (.vw (keyOf d 0) [] 0 1 false))
          | none => none
          else none
        | none => none
      | none => none
    | _, _ => none
  | .load t a => match e.ty t with
    | some v => match σ.rd a with
      | .ptr k p off => match σ.cells k p off v.cells with
        | some cs => if cs.any (fun c => match c with | .hole => true | _ => false) then some (σ.put o.dst .dead) else some (σ.put o.dst (F.view k p off v.cells v.agg cs))
        | none => none
      | .pt b ts => if v.cells ≤ ts.length then some (σ.put o.dst (ofT b v.agg (ts.take v.cells))) else none
      | _ => none
    | none => none
  | .store t a x => match e.ty t with
    | some v => match σ.take (σ.rd x) with
      | some (cs, σ') => if cs.length = v.cells then
          (match σ'.rd a with
           | .ptr k p off => (σ'.write k p off cs).map (fun σ2 => (storeKeep σ2 x (σ.rd x) k p off cs.length).put o.dst .undef)
           | _ => none)
        else none
      | none => none
    | none => none
  | .nilCheck x => match σ.rd x with
    | .ptr k p off => some (σ.put o.dst (.ptr k p off))
    | .pt b ts => some (σ.put o.dst (.pt b ts))
    | .fn g caps => some (σ.put o.dst (.fn g caps))
    | _ => none
  | .binOp op t x y _ => match binOp_ op (match e.ty t with | some { desc := .bool, .. } => true | _ => false) (σ.rd x) (σ.rd y) with
    | some s => some (σ.put o.dst s)
    | none => none
  | .unOp op _ x => match unOp_ op (σ.rd x) with
    | some s => some (σ.put o.dst s)
    | none => none
  | .convert src dst x => match e.ty src, e.ty dst with
    | some a, some b => match a.desc, b.desc, σ.rd x with
      | _, .int k, .lit (.int _ n) => some (σ.put o.dst (liT (.int k (k.wrap n))))
      | _, .string, .lit (.string s) => some (σ.put o.dst (liT (.string s)))
      | .string, .slice el, .lit (.string s) => match o.dst, e.ty el with
        | some d, some { desc := .int .u8, cells := 1, .. } => if s.size ≤ 9223372036854775807 then some ((σ.new (keyOf d 0) { cells := [.ow (bytesT s)] }).put o.dst (.vw (keyOf d 0) [] 0 1 false)) else none
        | _, _ => none
      | .slice el, .string, s => match σ.free1 s, e.ty el with
        | some (.sl _ rows), some { desc := .int .u8, .. } => match bytesOf rows with
          | some bs => some (σ.put o.dst (liT (.string ⟨bs.toArray⟩)))
          | none => none
        | _, _ => none
      | _, _, _ => none
    | _, _ => none
  | .makeFunc (.func g) first captured => if first.isEmpty then some (σ.put o.dst (.fn g (captured.toList.map σ.rd))) else none
  | .makeSlice t l c => match e.ty t, o.dst with
    | some { desc := .slice el, .. }, some d => match e.ty el, intOf? (σ.rd l), intOf? (σ.rd c) with
      | some v, some n, some m => if 0 < v.bytes ∧ 0 ≤ n ∧ n ≤ m ∧ m.toNat * v.bytes ≤ maxBytes then
          some ((σ.new (keyOf d 0) { cells := [.ow (.sl v.cells (List.replicate n.toNat v.zero))] }).put o.dst (.vw (keyOf d 0) [] 0 1 false))
        else none
      | _, _, _ => none
    | _, _ => none
  | .slice t x lo hi none => match optInt σ lo, optInt σ hi with
    | some l, some h => match sliceIt e σ t (σ.rd x) l h with
      | some s => some (σ.put o.dst s)
      | none => none
    | _, _ => none
  | .fieldAddr t x f => match e.ty t with
    | some { desc := .struct fs, .. } => match fs[f]? with
      | some fd => if (e.ty fd.type).isSome then (match σ.rd x with
        | .ptr k p o' => some (σ.put o.dst (.ptr k p (o' + fd.offset)))
        | .pt b ts => some (σ.put o.dst (.pt b (ts.drop fd.offset)))
        | _ => none) else none
      | none => none
    | _ => none
  | .field t x f => match e.ty t with
    | some { desc := .struct fs, .. } => match fs[f]? with
      | some fd => match e.ty fd.type with
        | some w => match σ.rd x with
          | .agg b ts => if fd.offset + w.cells ≤ ts.length then some (σ.put o.dst (ofT b w.agg ((ts.drop fd.offset).take w.cells))) else none
          | .vw k p off n true => if fd.offset + w.cells ≤ n then (match σ.cells k p (off + fd.offset) w.cells with
            | some cs => some (σ.put o.dst (F.view k p (off + fd.offset) w.cells w.agg cs))
            | none => none) else none
          | _ => none
        | none => none
      | none => none
    | _ => none
  | .indexAddr t x i => match addrOf e σ t (σ.rd x) (σ.rd i) with
    | some s => some (σ.put o.dst s)
    | none => none
  | .index t x i => match e.ty t, σ.rd x, intOf? (σ.rd i) with
    | some { desc := .string, .. }, .lit (.string s), some n => if 0 ≤ n then
        (match s[n.toNat]? with
         | some b => some (σ.put o.dst (liT (.int .u8 b.toNat)))
         | none => none)
      else none
    | some { desc := .array len el, .. }, .agg b ts, some n => match e.ty el with
      | some w => if 0 ≤ n ∧ n < len ∧ n.toNat * w.cells + w.cells ≤ ts.length then some (σ.put o.dst (ofT b w.agg ((ts.drop (n.toNat * w.cells)).take w.cells))) else none
      | none => none
    | _, _, _ => none
  | .extract x i => match σ.rd x with
    | .tup xs => match xs[i]? with
      | some s => some (σ.put o.dst s)
      | none => none
    | _ => none
  | .call c => match c.callee with
    | .builtin .len => match c.args.toList, c.argTypes.toList with
      | [x], [t] => match lenS σ (σ.rd x), e.ty t with
        | some n, some { desc := .slice _, .. } => (match σ.rd x with | .lit _ => none | _ => some (σ.put o.dst (liT (.int .i64 n))))
        | some n, some { desc := .string, .. } => (match σ.rd x with | .lit _ => some (σ.put o.dst (liT (.int .i64 n))) | _ => none)
        | _, _ => none
      | _, _ => none
    | .builtin .append => match c.args.toList, c.argTypes.toList with
      | [a, x], [st, xt] => match e.ty xt with
        | some { desc := .int _, .. } => match e.ty st, intOf? (σ.rd x) with
          | some { desc := .slice el, .. }, some n => match e.ty el with
            | some v => if 0 < v.bytes ∧ 0 ≤ n ∧ n.toNat * v.bytes ≤ maxBytes then σ.append e o.dst st a (fun _ σ => some (List.replicate n.toNat (v.zero.map .ow), σ)) else none
            | none => none
          | _, _ => none
        | some _ => σ.append e o.dst st a (fun m σ => σ.source m (σ.rd x))
        | none => none
      | _, _ => none
    | .builtin .cap => match c.args.toList, c.argTypes.toList with
      | [x], [t] => match σ.rd x, e.ty t with
        | .nils, some { desc := .slice _, .. } => some (σ.put o.dst (liT (.int .i64 0)))
        | _, _ => none
      | _, _ => none
    | .builtin .min => match c.args.toList with
      | [x, y] => match intOf? (σ.rd x), intOf? (σ.rd y), σ.rd x with
        | some a, some b, .lit (.int k _) => some (σ.put o.dst (liT (.int k (if b < a then b else a))))
        | _, _, _ => none
      | _ => none
    | .builtin .max => match c.args.toList with
      | [x, y] => match intOf? (σ.rd x), intOf? (σ.rd y), σ.rd x with
        | some a, some b, .lit (.int k _) => some (σ.put o.dst (liT (.int k (if a < b then b else a))))
        | _, _, _ => none
      | _ => none
    | .builtin _ => none
    | .value f => match σ.rd f with
      | .fn g caps => σ.call e run o.dst g (c.args.toList.map σ.rd ++ caps)
      | _ => none
    | .invoke .. => none
  | _ => none
def stillOp (e : Env) : Op → Bool
  | .alloc _ | .box .. | .buildSlice .. | .makeSlice .. | .store .. => false
  | .convert _ dst _ => match e.ty dst with | some { desc := .slice _, .. } => false | _ => true
  | .call c => match c.callee with | .builtin .append => false | .builtin _ => true | _ => false
  | _ => true
def newOp : Op → Bool
  | .alloc _ | .box .. | .buildSlice .. | .makeSlice .. | .convert .. => true
  | _ => false
def slotOp (e : Env) : Op → Bool
  | .move _ | .pick .. | .load .. | .nilCheck _ | .binOp .. | .unOp .. | .makeFunc .. | .slice .. | .fieldAddr .. | .field .. | .indexAddr .. | .index .. | .extract .. => true
  | .convert _ dst _ => match e.ty dst with | some { desc := .slice _, .. } => false | _ => true
  | .call c => match c.callee with | .builtin .append => false | .builtin _ => true | _ => false
  | _ => false
inductive Qry where
  | whole (k : Nat)
  | view (k : Nat) (p : List (Nat × Nat)) (off n : Nat) (ag : Bool)
  | elem (w k : Nat) (p : List (Nat × Nat)) (off i : Nat)
  deriving Inhabited
inductive Seen where
  | ob (o : Option O)
  | sl (s : Option S)
  deriving Inhabited
def viewO (k : Nat) (p : List (Nat × Nat)) (off n : Nat) (ag : Bool) : Option (List C) → Option S
  | some cs => if cs.any (fun c => match c with | .hole => true | _ => false) then some .dead else some (F.view k p off n ag cs)
  | none => none
def elemO (w k : Nat) (p : List (Nat × Nat)) (off i : Nat) : Option (List C) → Option S
  | some [c] => elemAt w k p off c i
  | _ => none
namespace Qry
def key : Qry → Nat
  | whole k => k
  | view k _ _ _ _ => k
  | elem _ k _ _ _ => k
def ask (ob : List (Nat × O)) : Qry → Seen
  | whole k => .ob (look ob k)
  | view k p off n ag => .sl (viewO k p off n ag (F.cells ⟨[], ob⟩ k p off n))
  | elem w k p off i => .sl (elemO w k p off i (F.cells ⟨[], ob⟩ k p off 1))
end Qry
def wholes : List Nat → List Qry
  | [] => []
  | k :: r => .whole k :: wholes r
def rkOf (e : Env) (σ : F) : Op → List Qry
  | .load t a => match σ.rd a, e.ty t with
    | .ptr k p off, some v => [.view k p off v.cells v.agg]
    | _, _ => []
  | .convert _ _ x => wholes (σ.rd x).keys
  | .slice _ x _ _ _ => wholes (σ.rd x).keys
  | .field _ x _ => wholes (σ.rd x).keys
  | .indexAddr t x i => match σ.rd x, intOf? (σ.rd i), e.ty t with
    | .vw k p off 1 false, some n, some { desc := .slice el, .. } => (match e.ty el with
      | some w => [.elem w.cells k p off n.toNat]
      | none => [])
    | s, _, _ => wholes s.keys
  | .index _ x _ => wholes (σ.rd x).keys
  | .call c => wholes (S.keyss (c.args.toList.map σ.rd))
  | _ => []
def guardOf (ops : Array Oper) (σ : F) (o : Oper) : Option Bool :=
  match o.guard with
  | none => some true
  | some (g, b) => match ops[g]? with
    | some og => match og.dst with
      | some d => match σ.at_ d with
        | .lit (.bool x) => some (x == b)
        | .undef => some false
        | _ => none
      | none => none
    | none => none
def opsOf (e : Env) (run : FuncId → List S → List O → Option (V × List (Option O))) (ops : Array Oper) : F → List Oper → Option F
  | σ, [] => some σ
  | σ, o :: r =>
    match guardOf ops σ o with
    | some b => if b then (match opOf e run σ o with
      | some σ' => opsOf e run ops σ' r
      | none => none) else opsOf e run ops (σ.put o.dst .undef) r
    | none => none
/-! ### regions that draw their order -/
inductive Res where
  | slot (rs : List Nat) (cs : List S) (rk : List Qry) (os : List Seen) (dst : Option Nat) (out : S)
  | eff (rs : List Nat) (ks : List Nat) (α : F) (dst : Option Nat) (β : F) (gv gp : List (Nat × List (Nat × Nat)))
  deriving Inhabited
def setO (l : List S) (d : Option Nat) (s : S) : List S := match d with | some d => l.set d s | none => l
namespace Res
def dst : Res → Option Nat
  | slot _ _ _ _ d _ => d
  | eff _ _ _ d _ _ _ => d
def rs : Res → List Nat
  | slot rs .. => rs
  | eff rs .. => rs
def cont : Res → List S
  | slot _ cs .. => cs
  | eff rs _ α _ _ _ _ => rs.map α.at_
def rks : Res → List Nat
  | slot _ _ rk .. => rk.map Qry.key
  | eff _ ks .. => ks
def qs : Res → List Qry
  | slot _ _ rk .. => rk
  | eff _ ks .. => wholes ks
def tk : Res → List Nat
  | slot .. => []
  | eff _ ks _ _ β _ _ => ks ++ β.ob.map (·.1)
def out : Res → S
  | slot _ _ _ _ _ s => s
  | eff _ _ _ d β _ _ => match d with | some d => β.at_ d | none => .dead
def okS : Res → S → Bool
  | slot .. => fun _ => true
  | eff _ ks _ d β gv gp => S.ok (fun k p => stillV d ks β.ob k p || gv.contains (k, p)) (fun k p => stillP d ks β.ob k p || gp.contains (k, p))
def sf (R : Res) (s : S) : S := if R.okS s then s else .dead
def app (R : Res) (σ : F) : F :=
  match R with
  | slot _ _ _ _ d s => σ.put d s
  | eff rs ks α d β gv gp => { sl := setO (σ.sl.map (eff rs ks α d β gv gp).sf) d (eff rs ks α d β gv gp).out, ob := β.ob ++ dropAll ks σ.ob }
end Res
def S.isDead : S → Bool
  | .dead => true
  | _ => false
def indepB (a b : Res) : Bool :=
  (match a.dst with | some d => !b.rs.contains d && b.dst != some d | none => true) && (match b.dst with | some d => !a.rs.contains d | none => true) &&
  apartL a.tk b.rks && apartL b.tk a.rks && apartL a.tk b.tk &&
  b.cont.all (fun c => !c.isDead) && a.cont.all (fun c => !c.isDead && b.okS c) && b.okS a.out && a.okS b.out
def nodupB : List Nat → Bool
  | [] => true
  | x :: r => !r.contains x && nodupB r
def ghostsOf (ob : List (Nat × O)) (ks : List Nat) : List S → List S
  | [] => []
  | .vw k p _ _ _ :: r => if ks.contains k && !p.isEmpty then (match rowLen ob k p with | some n => .vw k p 0 n true :: ghostsOf ob ks r | none => ghostsOf ob ks r) else ghostsOf ob ks r
  | .ptr k p _ :: r => if ks.contains k && !p.isEmpty then (match rowLen ob k p with | some _ => .ptr k p 0 :: ghostsOf ob ks r | none => ghostsOf ob ks r) else ghostsOf ob ks r
  | _ :: r => ghostsOf ob ks r
def aliveV (ob : List (Nat × O)) : List S → List S → List (Nat × List (Nat × Nat))
  | .vw k p _ n _ :: gs, .vw k' p' off' n' ag' :: as => if k' = k ∧ p' = p ∧ off' = 0 ∧ n' = n ∧ ag' = true ∧ rowLen ob k p = some n then (k, p) :: aliveV ob gs as else aliveV ob gs as
  | _ :: gs, _ :: as => aliveV ob gs as
  | _, _ => []
def aliveP : List S → List S → List (Nat × List (Nat × Nat))
  | .ptr k p _ :: gs, .ptr k' p' off' :: as => if k' = k ∧ p' = p ∧ off' = 0 then (k, p) :: aliveP gs as else aliveP gs as
  | _ :: gs, _ :: as => aliveP gs as
  | _, _ => []
def inRange (n : Nat) (rs : List Nat) (d : Option Nat) : Bool := rs.all (fun t => decide (t < n)) && (match d with | some d => decide (d < n) | none => true)
def toldBy (σ : F) (o : Oper) : Option Nat := match o.dst, o.op with
  | none, .store _ _ (.tmp t) => (match σ.at_ t with | .vw .. => some t | _ => none)
  | d, _ => d
def effG (e : Env) (run : FuncId → List S → List O → Option (V × List (Option O))) (o : Oper) (rs ks : List Nat) (α : F) (gs : List S) (σ : F) : Option Res :=
  match opOf e run { sl := α.sl ++ gs, ob := α.ob } o with
  | some β => if β.ob.all (fun x => ks.contains x.1 || (look σ.ob x.1).isNone) && nodupB (β.ob.map (·.1)) && inRange α.sl.length rs o.dst && inRange α.sl.length [] (toldBy σ o) then
      some (.eff rs ks α (toldBy σ o) { sl := β.sl.take α.sl.length, ob := β.ob } (aliveV β.ob gs (β.sl.drop α.sl.length)) (aliveP gs (β.sl.drop α.sl.length))) else none
  | none => none
def resOf (e : Env) (run : FuncId → List S → List O → Option (V × List (Option O))) (gh : Bool) (ops : Array Oper) (σ : F) (o : Oper) : Option Res :=
  match guardOf ops σ o with
  | some true =>
    if slotOp e o.op then
      (match opOf e run σ o with
       | some σ' => some (.slot (o.looksAt ops) ((o.looksAt ops).map σ.at_) (rkOf e σ o.op) ((rkOf e σ o.op).map (Qry.ask σ.ob)) o.dst (match o.dst with | some d => σ'.at_ d | none => .dead))
       | none => none)
    else
      (let ks := S.keyss ((o.looksAt ops).map σ.at_) ++ (σ.ob.map (·.1)).filter (newKey o.dst)
       if gh then effG e run o (o.looksAt ops) ks (σ.only (o.looksAt ops) ks) (ghostsOf (σ.only (o.looksAt ops) ks).ob ks σ.sl) σ else
       match opOf e run (σ.only (o.looksAt ops) ks) o with
       | some β => if β.ob.all (fun x => ks.contains x.1 || (look σ.ob x.1).isNone) && nodupB (β.ob.map (·.1)) then some (.eff (o.looksAt ops) ks (σ.only (o.looksAt ops) ks) o.dst β [] []) else none
       | none => none)
  | some false => some (.slot (o.looksAt ops) ((o.looksAt ops).map σ.at_) [] [] o.dst .undef)
  | none => none
def drawRun (e : Env) (run : FuncId → List S → List O → Option (V × List (Option O))) (gh : Bool) (ops : Array Oper) : Nat → List Oper → F → Option (List (Nat × Res) × F)
  | _, [], σ => some ([], σ)
  | i, o :: r, σ => match resOf e run gh ops σ o with
    | some R => match drawRun e run gh ops (i + 1) r (R.app σ) with
      | some (l, τ) => some ((i, R) :: l, τ)
      | none => none
    | none => none
def depsOf (dm : List (List Nat)) (o : Oper) : List Nat :=
  ((o.after.toList.filter (Region.binds .any)).flatMap fun e => e.on :: dm.getD e.on []).eraseDups
def depMat (ops : List Oper) : List (List Nat) := ops.foldl (fun dm o => dm ++ [depsOf dm o]) []
def depB (ops : Array Oper) (dm : List (List Nat)) : Bool :=
  (List.range ops.size).all fun j => match ops[j]? with
    | some o => o.after.toList.all (fun e => !Region.binds .any e || decide (e.on < j)) &&
      (dm.getD j []).all fun a => o.after.toList.any fun e => Region.binds .any e && (e.on == a || (dm.getD e.on []).contains a)
    | none => true
def pairsB (dm : List (List Nat)) : List (Nat × Res) → Bool
  | [] => true
  | (i, R) :: l => l.all (fun x => (dm.getD x.1 []).contains i || indepB R x.2) && pairsB dm l
def drawB (ops : Array Oper) (l : List (Nat × Res)) : Bool :=
  Region.noSelect ops && depB ops (depMat ops.toList) && pairsB (depMat ops.toList) l
def stillE (R : Res) (k : Nat) : Prop := match R with
  | .slot .. => False
  | .eff _ ks α _ β _ _ => ks.contains k = true ∧ look β.ob k = look α.ob k
def stillH : List (Nat × Nat) → List (Nat × Res) → Prop
  | [], _ => True
  | (i, k) :: hs, l => (match l[i]? with | some x => stillE x.2 k | none => False) ∧ stillH hs l
def seesE (a b : Res) : Prop := match a, b with
  | .eff _ ks α _ β _ _, .slot _ _ rk .. => ∀ q ∈ rk, ks.contains q.key = true ∧ q.ask β.ob = q.ask α.ob
  | _, _ => False
def stillQ : List (Nat × Nat) → List (Nat × Res) → Prop
  | [], _ => True
  | (i, j) :: hs, l => (match l[i]?, l[j]? with | some a, some b => seesE a.2 b.2 | _, _ => False) ∧ stillQ hs l
def indepH (hs hq : List (Nat × Nat)) (i j : Nat) (a b : Res) : Bool :=
  (match a.dst with | some d => !b.rs.contains d && b.dst != some d | none => true) && (match b.dst with | some d => !a.rs.contains d | none => true) &&
  a.tk.all (fun k => !b.rks.contains k || (hs.contains (i, k) || hq.contains (i, j))) && b.tk.all (fun k => !a.rks.contains k || (hs.contains (j, k) || hq.contains (j, i))) && a.tk.all (fun k => !b.tk.contains k || (hs.contains (i, k) && hs.contains (j, k))) &&
  b.cont.all (fun c => !c.isDead) && a.cont.all (fun c => !c.isDead && b.okS c) && b.okS a.out && a.okS b.out
def pairsH (hs hq : List (Nat × Nat)) (dm : List (List Nat)) : List (Nat × Res) → Bool
  | [] => true
  | (i, R) :: l => l.all (fun x => (dm.getD x.1 []).contains i || indepH hs hq i x.1 R x.2) && pairsH hs hq dm l
def drawH (hs hq : List (Nat × Nat)) (ops : Array Oper) (l : List (Nat × Res)) : Bool :=
  Region.noSelect ops && depB ops (depMat ops.toList) && pairsH hs hq (depMat ops.toList) l
inductive DrawOk (ops : Array Oper) (l : List (Nat × Res)) : Prop
  | b (h : drawB ops l = true)
  | h (hs : List (Nat × Nat)) (h1 : stillH hs l) (h2 : drawH hs [] ops l = true)
  | q (hs hq : List (Nat × Nat)) (h1 : stillH hs l) (h3 : stillQ hq l) (h2 : drawH hs hq ops l = true)
open Classical in
noncomputable def drawnF (ops : Array Oper) (l : List (Nat × Res)) (τ : F) : Option (Ex × F) := if DrawOk ops l then some (.normal, τ) else none
def iter (body : F → Option (Ex × F)) : Nat → F → Option (Ex × F)
  | 0, _ => none
  | n + 1, σ => match body σ with
    | some (.normal, σ') => iter body n σ'
    | r => r
def headOf : Code → Option Nat
  | .region id _ _ => some id
  | .seq a _ => headOf a
  | .block _ c => headOf c
  | .loop c => headOf c
  | .scope c => headOf c
  | _ => none
def keepAt (e : Env) (f : FuncId) (c : Code) (σ : F) : F := match headOf c with | some id => (σ.tidys (e.nrm f id)).keep (e.keep f id) | none => σ
def choiceOf (e : Env) (ops : Array Oper) : Option (Nat × Nat) :=
  if ops.size = 4 then
    (match ops.toList with
     | [a, b, c, d] => match a.op, a.dst with
       | .alloc t, some k => match b.op with
         | .store t1 (.tmp k1) (.const (.bool _)) => match c.op with
           | .store t2 (.tmp k2) (.const (.bool _)) => match d.op, d.dst with
             | .load t3 (.tmp k3), some r => match e.ty t with
               | some { desc := .bool, cells := 1, agg := false, .. } =>
                 if k1 = k ∧ k2 = k ∧ k3 = k ∧ t1 = t ∧ t2 = t ∧ t3 = t ∧ a.guard = none ∧ b.guard = none ∧ c.guard = none ∧ d.guard = none ∧ b.dst = none ∧ c.dst = none ∧ ¬k = r then some (k, r) else none
               | _ => none
             | _, _ => none
           | _ => none
         | _ => none
       | _, _ => none
     | _ => none)
  else none
def choiceB (ops : Array Oper) : Bool :=
  Region.ready .any ops #[false, false, false, false] == [0] &&
  (Region.ready .any ops #[true, false, false, false]).all (fun i => i == 1 || i == 2) && !(Region.ready .any ops #[true, false, false, false]).isEmpty &&
  Region.ready .any ops #[true, true, false, false] == [2] && Region.ready .any ops #[true, false, true, false] == [1] &&
  Region.ready .any ops #[true, true, true, false] == [3] && Region.ready .any ops #[true, true, true, true] == []
def S.isYn : S → Bool
  | .yn => true
  | _ => false
def joinAt (e : Env) (f : FuncId) (x : Code) (σ : F) : F := match headOf x with | some id => (σ.tidys (e.nrmJ f id)).keep (e.join f id) | none => σ
open Classical in
noncomputable def bothF (e : Env) (f : FuncId) (x : Code) : Option (Ex × F) → Option (Ex × F) → Option (Ex × F)
  | some (.normal, a), some (.normal, b) => if joinAt e f x a = joinAt e f x b then some (.normal, joinAt e f x a) else none
  | _, _ => none
noncomputable def drawnR (ops : Array Oper) (σ : F) (ch : Option (Nat × Nat)) (r : Option (List (Nat × Res) × F)) : Option (Ex × F) :=
  match ch with
  | some (k, t) => if choiceB ops = true ∧ k < σ.sl.length ∧ t < σ.sl.length then some (.normal, (σ.put (some k) .dead).put (some t) .yn) else none
  | none => match r with
    | some (l, τ) => drawnF ops l τ
    | none => none
def round (e : Env) (f : FuncId) (c : Code) (g : F → Option (Ex × F)) (σ : F) : Option (Ex × F) := g (keepAt e f c σ)
noncomputable def codeOf (e : Env) (run : FuncId → List S → List O → Option (V × List (Option O))) (f : FuncId) (n : Nat) : Code → F → Option (Ex × F)
  | .skip, σ => some (.normal, σ)
  | .region id ops draw, σ =>
    if draw then drawnR ops (σ.keep (e.trim f id)) (choiceOf e ops) (drawRun e run (e.gho f id) ops 0 ops.toList (σ.keep (e.trim f id)))
    else (opsOf e run ops (σ.keep (e.trim f id)) ops.toList).map (Ex.normal, ·)
  | .seq a b, σ => match codeOf e run f n a σ with
    | some (.normal, σ') => codeOf e run f n b σ'
    | r => r
  | .cond c x y, σ => match boolOf? (σ.rd c) with
    | some b => if b then codeOf e run f n x σ else codeOf e run f n y σ
    | none => if (σ.rd c).isYn then bothF e f x (codeOf e run f n x σ) (codeOf e run f n y σ) else none
  | .block id c, σ => match codeOf e run f n c σ with
    | some (.exit j, σ') => if j = id then some (.normal, σ') else some (.exit j, σ')
    | r => r
  | .loop c, σ => iter (round e f c (codeOf e run f n c)) n σ
  | .exit id, σ => some (.exit id, σ)
  | .scope c, σ => codeOf e run f n c σ
  | .ret, σ => some (.ret, σ)
  | _, _ => none
def outOne (σ : F) (nimp : Nat) : S → Option (V × F)
  | .lit v => some (.lit v, σ)
  | .val b t => some (.val b t, σ)
  | .agg b ts => some (.agg b ts, σ)
  | .nils => some (.nils, σ)
  | .vw k p off n ag => match σ.take (.vw k p off n ag) with
    | some (cs, σ') => if cs.all C.free then (match cellsToT cs with
        | some ts => match ofT (lentAll cs) ag ts with
          | .lit v => some (.lit v, σ')
          | .val b t => some (.val b t, σ')
          | .agg b l => some (.agg b l, σ')
          | _ => none
        | none => none) else some (.ov cs ag, σ')
    | none => none
  | .sub k p off sz' lo hi => match σ.take (.vw k p off 1 false) with
    | some ([.ow (.sl sz rows)], σ') => if lo = 0 ∧ sz' = sz ∧ hi ≤ rows.length ∧ 0 < rows.length then some (.ov [.ow (.sl sz (rows.take hi))] false, σ') else none
    | _ => none
  | .ptr k p off => if k < nimp then some (.ptr k p off, σ) else match look σ.ob k with
    | some o => if p = [(0, 0)] && off = 0 && o.box then some (.op o.cells, σ.del k) else none
    | none => none
  | _ => none
def outMany (nimp : Nat) : Nat → Nat → F → Option (List V × F)
  | 0, _, σ => some ([], σ)
  | m + 1, i, σ => match outOne σ nimp (σ.at_ i) with
    | some (v, σ') => match outMany nimp m (i + 1) σ' with
      | some (vs, σ'') => some (v :: vs, σ'')
      | none => none
    | none => none
def ptrsOk (σ : F) : Nat → List V → Bool
  | _, [] => true
  | i, .ptr k p off :: r => (match σ.at_ i with | .ptr k' p' off' => k == k' && p == p' && off == off' | _ => false) && ptrsOk σ (i + 1) r
  | i, _ :: r => ptrsOk σ (i + 1) r
def resSlots (e : Env) (σ : F) : List ResultVar → Option (List S)
  | [] => some []
  | .tmp t :: r => (resSlots e σ r).map (σ.at_ t :: ·)
  | .cell a t :: r => match σ.at_ a, e.ty t, resSlots e σ r with
    | .ptr k p off, some v, some rs => match σ.cells k p off v.cells with
      | some cs => some (F.view k p off v.cells v.agg cs :: rs)
      | none => none
    | _, _, _ => none
def enterObs (obs : List O) : Nat → List (Nat × O)
  | i => match obs with
    | [] => []
    | o :: r => (i, o) :: enterObs r (i + 1)
def leaveObs (σ : F) : Nat → Nat → List (Option O)
  | _, 0 => []
  | i, n + 1 => (look σ.ob i) :: leaveObs σ (i + 1) n
def packV : List V → V
  | [v] => v
  | vs => .tup vs
def dstsO (l : List Oper) : List Nat := l.flatMap fun o => o.dst.toList
def dstsC : Code → List Nat
  | .region _ ops _ => dstsO ops.toList
  | .seq a b => dstsC a ++ dstsC b
  | .cond _ a b => dstsC a ++ dstsC b
  | .block _ c => dstsC c
  | .loop c => dstsC c
  | .scope c => dstsC c
  | _ => []
def unbox1 (σ : F) (i j n : Nat) : F := match σ.at_ i with
  | .vw k p off m true => if m = n && (look σ.ob j).isNone then (match σ.take (.vw k p off m true) with
      | some (cs, σ') => if (look σ'.ob j).isNone then σ'.new j { cells := cs } else σ
      | none => σ) else σ
  | _ => σ
def unboxes : List (Nat × Nat × Nat) → F → F
  | [], σ => σ
  | (i, j, n) :: r, σ => unboxes r (unbox1 σ i j n)
def unOk (c : Code) (args : List S) (obs : List O) : List (Nat × Nat × Nat) → Bool
  | [] => true
  | (i, j, n) :: r => (match args[i]?, look (enterObs obs 0) j with
    | some (.vw j' [] 0 n' true), some o => j' = j && n' = n && o.cells.length = n && decide (j < 64) && !(dstsC c).contains i
    | _, _ => false) && unOk c args obs r
noncomputable def runFn (e : Env) (run : FuncId → List S → List O → Option (V × List (Option O))) (f : FuncId) (n : Nat) (fn : Func) (args : List S) (obs : List O) : Option (V × List (Option O)) :=
  match fn.body with
  | some c => if unOk c args obs (e.un f) then
    match codeOf e run f n c { sl := args ++ List.replicate (fn.ntmps - args.length) .undef, ob := enterObs obs 0 } with
    | some (ex, σ0) =>
      let σ := unboxes (e.un f) (σ0.tidys (e.nrmX f))
      if ex = .normal ∨ ex = .ret then
        match resSlots e σ fn.results.toList with
        | some ss => match outMany obs.length ss.length σ.sl.length { σ with sl := σ.sl ++ ss } with
          | some (vs, σ') => if ptrsOk σ' σ.sl.length vs then some (packV vs, leaveObs σ' 0 obs.length) else none
          | none => none
        | none => none
      else none
    | none => none
    else none
  | none => none
noncomputable def pcall (e : Env) (fs : FuncId → Option Func) : Nat → FuncId → List S → List O → Option (V × List (Option O))
  | 0, _, _, _ => none
  | k + 1, f, args, obs => match e.ext f with
    | some g => g args obs
    | none => match fs f with
      | some fn => runFn e (pcall e fs k) f k fn args obs
      | none => none
def isAggDesc : TypeDesc → Bool
  | .struct _ | .array .. => true
  | _ => false
def isAggValue : Value → Bool
  | .agg _ => true
  | _ => false
def tvOf (P : Program) (t : TypeId) : Option TV :=
  match P.info? t, P.underlying t with
  | some i, some d => match i.zero with
    | some z => match cellsT z.cells.toList with
      | some ts => if z.cells.size = i.size ∧ isAggValue z = isAggDesc d ∧ 0 < i.size then some { desc := d, cells := i.size, bytes := i.bytes, zero := ts, agg := isAggDesc d } else none
      | none => none
    | none => none
  | _, _ => none
end Go.Proofs.YtckojpaklblnpaaGreatDoor.Ev
/- What the evaluator's trees say of memory: read-only trees, owned trees, cells of objects; how they stand when the world goes on. -/
set_option linter.unusedVariables false
set_option linter.unusedSimpArgs false
namespace Go.Proofs.YtckojpaklblnpaaGreatDoor.Ev
open Go Go.RowKit
def one (v : Value) : Prop := v.oneCell' = true
mutual
def IsT (w : World) (φ : Nat → Prop) : T → Value → Prop
  | .lit x, v => v = x ∧ one x
  | .sl sz rows, v => ∃ a cap, v = .slice a rows.length cap ∧ rows.length ≤ cap ∧
      (rows = [] ∨ ∃ b o cur e fz, a = some ⟨b, o, none⟩ ∧ φ b ∧ w.heap[b]? = some (.cells cur e fz) ∧ IsTRows w φ sz rows (cur.toList.drop o))
def IsTs (w : World) (φ : Nat → Prop) : List T → List Value → Prop
  | [], vs => vs = []
  | t :: ts, vs => ∃ v vs', vs = v :: vs' ∧ IsT w φ t v ∧ IsTs w φ ts vs'
def IsTRows (w : World) (φ : Nat → Prop) (sz : Nat) : List (List T) → List Value → Prop
  | [], _ => True
  | r :: rs, vs => r.length = sz ∧ IsTs w φ r (vs.take sz) ∧ IsTRows w φ sz rs (vs.drop sz)
end
def OwnSl (w : World) (sz n : Nat) (v : Value) (B : List Nat) (R : List Value → List Nat → Prop) : Prop :=
  (v = .slice none 0 0 ∧ n = 0 ∧ B = []) ∨
  ∃ g cap cur e fz B', v = .slice (some ⟨g, 0, none⟩) n cap ∧ w.heap[g]? = some (.cells cur e fz) ∧ (∀ i, i < cur.size → ¬(fz.1 ≤ i ∧ i < fz.2)) ∧ (0 < sz ∧ n ≤ cap) ∧ cap ≤ maxLen ∧ cur.size = cap * sz ∧ B = g :: B' ∧ R cur.toList B'
mutual
def IsO (w : World) : T → Value → List Nat → Prop
  | .lit x, v, B => v = x ∧ one x ∧ B = []
  | .sl sz rows, v, B => OwnSl w sz rows.length v B (fun vs B' => IsORows w sz rows vs B')
def IsOs (w : World) : List T → List Value → List Nat → Prop
  | [], vs, B => vs = [] ∧ B = []
  | t :: ts, vs, B => ∃ v vs' B1 B2, vs = v :: vs' ∧ B = B1 ++ B2 ∧ IsO w t v B1 ∧ IsOs w ts vs' B2
def IsORows (w : World) (sz : Nat) : List (List T) → List Value → List Nat → Prop
  | [], _, B => B = []
  | r :: rs, vs, B => ∃ B1 B2, B = B1 ++ B2 ∧ r.length = sz ∧ IsOs w r (vs.take sz) B1 ∧ IsORows w sz rs (vs.drop sz) B2
end
mutual
def IsC (w : World) (Φ : Bool → Nat → Prop) : C → Value → List Nat → Prop
  | .im b t, v, B => B = [] ∧ IsT w (Φ b) t v
  | .ow t, v, B => IsO w t v B
  | .own sz rows, v, B => OwnSl w sz rows.length v B (fun vs B' => IsCRows w Φ sz rows vs B')
  | .hole, v, B => B = [] ∧ one v
def IsCs (w : World) (Φ : Bool → Nat → Prop) : List C → List Value → List Nat → Prop
  | [], vs, B => vs = [] ∧ B = []
  | c :: cs, vs, B => ∃ v vs' B1 B2, vs = v :: vs' ∧ B = B1 ++ B2 ∧ IsC w Φ c v B1 ∧ IsCs w Φ cs vs' B2
def IsCRows (w : World) (Φ : Bool → Nat → Prop) (sz : Nat) : List (List C) → List Value → List Nat → Prop
  | [], _, B => B = []
  | r :: rs, vs, B => ∃ B1 B2, B = B1 ++ B2 ∧ r.length = sz ∧ IsCs w Φ r (vs.take sz) B1 ∧ IsCRows w Φ sz rs (vs.drop sz) B2
end
theorem one_slice (a : Option Addr) (n c : Nat) : one (.slice a n c) := rfl
theorem OwnSl.imp {w w' : World} {sz n : Nat} {v : Value} {B : List Nat} {R R' : List Value → List Nat → Prop} (h : OwnSl w sz n v B R)
    (hw : ∀ b ∈ B, w'.heap[b]? = w.heap[b]?) (hR : ∀ vs B', (∀ b ∈ B', b ∈ B) → R vs B' → R' vs B') : OwnSl w' sz n v B R' := by
  rcases h with h | ⟨g, cap, cur, e, fz, B', h1, h2, h3, h4, h5, h6, rfl, h8⟩
  · exact .inl h
  · exact .inr ⟨g, cap, cur, e, fz, B', h1, (hw g (by simp)).trans h2, h3, h4, h5, h6, rfl, hR _ _ (fun b hb => by simp [hb]) h8⟩
mutual
theorem IsT.mono {w w' : World} {φ φ' : Nat → Prop} (hφ : ∀ b, φ b → φ' b) (hw : ∀ b, φ b → w'.heap[b]? = w.heap[b]?) : ∀ (t : T) (v : Value), IsT w φ t v → IsT w' φ' t v
  | .lit _, _, h => by simp only [IsT] at h ⊢; exact h
  | .sl sz rows, v, h => by
    simp only [IsT] at h ⊢
    obtain ⟨a, cap, h1, h2, h3⟩ := h
    refine ⟨a, cap, h1, h2, ?_⟩
    rcases h3 with h3 | ⟨b, o, cur, e, fz, h4, h5, h6, h7⟩
    · exact .inl h3
    · exact .inr ⟨b, o, cur, e, fz, h4, hφ b h5, (hw b h5).trans h6, IsTRows.mono hφ hw sz rows _ h7⟩
theorem IsTs.mono {w w' : World} {φ φ' : Nat → Prop} (hφ : ∀ b, φ b → φ' b) (hw : ∀ b, φ b → w'.heap[b]? = w.heap[b]?) : ∀ (ts : List T) (vs : List Value), IsTs w φ ts vs → IsTs w' φ' ts vs
  | [], _, h => by simp only [IsTs] at h ⊢; exact h
  | t :: ts, vs, h => by
    simp only [IsTs] at h ⊢
    obtain ⟨v, vs', h1, h2, h3⟩ := h
    exact ⟨v, vs', h1, IsT.mono hφ hw t v h2, IsTs.mono hφ hw ts vs' h3⟩
theorem IsTRows.mono {w w' : World} {φ φ' : Nat → Prop} (hφ : ∀ b, φ b → φ' b) (hw : ∀ b, φ b → w'.heap[b]? = w.heap[b]?) (sz : Nat) : ∀ (rs : List (List T)) (vs : List Value), IsTRows w φ sz rs vs → IsTRows w' φ' sz rs vs
  | [], _, h => by simp only [IsTRows]
  | r :: rs, vs, h => by
    simp only [IsTRows] at h ⊢
    exact ⟨h.1, IsTs.mono hφ hw r _ h.2.1, IsTRows.mono hφ hw sz rs _ h.2.2⟩
end
mutual
theorem IsO.stable {w w' : World} : ∀ (t : T) (v : Value) (B : List Nat), (∀ b ∈ B, w'.heap[b]? = w.heap[b]?) → IsO w t v B → IsO w' t v B
  | .lit _, _, _, _, h => by simp only [IsO] at h ⊢; exact h
  | .sl sz rows, v, B, hw, h => by
    simp only [IsO] at h ⊢
    exact h.imp hw fun vs B' hB h' => IsORows.stable sz rows vs B' (fun b hb => hw b (hB b hb)) h'
theorem IsOs.stable {w w' : World} : ∀ (ts : List T) (vs : List Value) (B : List Nat), (∀ b ∈ B, w'.heap[b]? = w.heap[b]?) → IsOs w ts vs B → IsOs w' ts vs B
  | [], _, _, _, h => by simp only [IsOs] at h ⊢; exact h
  | t :: ts, vs, B, hw, h => by
    simp only [IsOs] at h ⊢
    obtain ⟨v, vs', B1, B2, h1, rfl, h3, h4⟩ := h
    exact ⟨v, vs', B1, B2, h1, rfl, IsO.stable t v B1 (fun b hb => hw b (by simp [hb])) h3, IsOs.stable ts vs' B2 (fun b hb => hw b (by simp [hb])) h4⟩
theorem IsORows.stable {w w' : World} (sz : Nat) : ∀ (rs : List (List T)) (vs : List Value) (B : List Nat), (∀ b ∈ B, w'.heap[b]? = w.heap[b]?) → IsORows w sz rs vs B → IsORows w' sz rs vs B
  | [], _, _, _, h => by simp only [IsORows] at h ⊢; exact h
  | r :: rs, vs, B, hw, h => by
    simp only [IsORows] at h ⊢
    obtain ⟨B1, B2, rfl, h2, h3, h4⟩ := h
    exact ⟨B1, B2, rfl, h2, IsOs.stable r _ B1 (fun b hb => hw b (by simp [hb])) h3, IsORows.stable sz rs _ B2 (fun b hb => hw b (by simp [hb])) h4⟩
end
mutual
theorem IsC.stable {w w' : World} {Φ Φ' : Bool → Nat → Prop} (hφ : ∀ x b, Φ x b → Φ' x b) (hw0 : ∀ x b, Φ x b → w'.heap[b]? = w.heap[b]?) : ∀ (c : C) (v : Value) (B : List Nat), (∀ b ∈ B, w'.heap[b]? = w.heap[b]?) → IsC w Φ c v B → IsC w' Φ' c v B
  | .im x t, v, B, hw, h => by simp only [IsC] at h ⊢; exact ⟨h.1, IsT.mono (hφ x) (hw0 x) t v h.2⟩
  | .ow t, v, B, hw, h => by simp only [IsC] at h ⊢; exact IsO.stable t v B hw h
  | .own sz rows, v, B, hw, h => by
    simp only [IsC] at h ⊢
    exact h.imp hw fun vs B' hB h' => IsCRows.stable hφ hw0 sz rows vs B' (fun b hb => hw b (hB b hb)) h'
  | .hole, v, B, hw, h => by simp only [IsC] at h ⊢; exact h
theorem IsCs.stable {w w' : World} {Φ Φ' : Bool → Nat → Prop} (hφ : ∀ x b, Φ x b → Φ' x b) (hw0 : ∀ x b, Φ x b → w'.heap[b]? = w.heap[b]?) : ∀ (ts : List C) (vs : List Value) (B : List Nat), (∀ b ∈ B, w'.heap[b]? = w.heap[b]?) → IsCs w Φ ts vs B → IsCs w' Φ' ts vs B
  | [], _, _, _, h => by simp only [IsCs] at h ⊢; exact h
  | t :: ts, vs, B, hw, h => by
    simp only [IsCs] at h ⊢
    obtain ⟨v, vs', B1, B2, h1, rfl, h3, h4⟩ := h
    exact ⟨v, vs', B1, B2, h1, rfl, IsC.stable hφ hw0 t v B1 (fun b hb => hw b (by simp [hb])) h3, IsCs.stable hφ hw0 ts vs' B2 (fun b hb => hw b (by simp [hb])) h4⟩
theorem IsCRows.stable {w w' : World} {Φ Φ' : Bool → Nat → Prop} (hφ : ∀ x b, Φ x b → Φ' x b) (hw0 : ∀ x b, Φ x b → w'.heap[b]? = w.heap[b]?) (sz : Nat) : ∀ (rs : List (List C)) (vs : List Value) (B : List Nat), (∀ b ∈ B, w'.heap[b]? = w.heap[b]?) → IsCRows w Φ sz rs vs B → IsCRows w' Φ' sz rs vs B
  | [], _, _, _, h => by simp only [IsCRows] at h ⊢; exact h
  | r :: rs, vs, B, hw, h => by
    simp only [IsCRows] at h ⊢
    obtain ⟨B1, B2, rfl, h2, h3, h4⟩ := h
    exact ⟨B1, B2, rfl, h2, IsCs.stable hφ hw0 r _ B1 (fun b hb => hw b (by simp [hb])) h3, IsCRows.stable hφ hw0 sz rs _ B2 (fun b hb => hw b (by simp [hb])) h4⟩
end
theorem OwnSl.one {w : World} {sz n : Nat} {v : Value} {B : List Nat} {R : List Value → List Nat → Prop} (h : OwnSl w sz n v B R) : one v := by
  rcases h with ⟨rfl, _⟩ | ⟨g, cap, cur, e, fz, B', rfl, _⟩ <;> exact one_slice _ _ _
theorem IsT.one {w : World} {φ : Nat → Prop} {t : T} {v : Value} (h : IsT w φ t v) : one v := by
  cases t with
  | lit x => simp only [IsT] at h; rw [h.1]; exact h.2
  | sl sz rows => simp only [IsT] at h; obtain ⟨a, cap, rfl, _⟩ := h; exact one_slice _ _ _
theorem IsO.one {w : World} {t : T} {v : Value} {B : List Nat} (h : IsO w t v B) : one v := by
  cases t with
  | lit x => simp only [IsO] at h; rw [h.1]; exact h.2.1
  | sl sz rows => simp only [IsO] at h; exact OwnSl.one h
theorem IsC.one {w : World} {Φ : Bool → Nat → Prop} {c : C} {v : Value} {B : List Nat} (h : IsC w Φ c v B) : one v := by
  cases c with
  | im b t => simp only [IsC] at h; exact h.2.one
  | ow t => simp only [IsC] at h; exact h.one
  | own sz rows => simp only [IsC] at h; exact OwnSl.one h
  | hole => simp only [IsC] at h; exact h.2
theorem IsCs.length {w : World} {Φ : Bool → Nat → Prop} : ∀ {cs : List C} {vs : List Value} {B : List Nat}, IsCs w Φ cs vs B → vs.length = cs.length
  | [], _, _, h => by simp only [IsCs] at h; simp [h.1]
  | c :: cs, _, _, h => by
    simp only [IsCs] at h
    obtain ⟨v, vs', B1, B2, rfl, _, _, h4⟩ := h
    simp [h4.length]
theorem IsTs.length {w : World} {φ : Nat → Prop} : ∀ {ts : List T} {vs : List Value}, IsTs w φ ts vs → vs.length = ts.length
  | [], _, h => by simp only [IsTs] at h; simp [h]
  | c :: cs, _, h => by
    simp only [IsTs] at h
    obtain ⟨v, vs', rfl, _, h4⟩ := h
    simp [h4.length]
/-! ### owned, seen as read-only -/
mutual
theorem IsO.toT {w : World} {φ : Nat → Prop} : ∀ (t : T) (v : Value) (B : List Nat), (∀ b ∈ B, φ b) → IsO w t v B → IsT w φ t v
  | .lit _, _, _, _, h => by simp only [IsO] at h; simp only [IsT]; exact ⟨h.1, h.2.1⟩
  | .sl sz rows, v, B, hB, h => by
    simp only [IsO] at h
    simp only [IsT]
    rcases h with ⟨rfl, h2, rfl⟩ | ⟨g, cap, cur, e, fz, B', rfl, h2, h3, h4, h5, h6, rfl, h8⟩
    · have : rows = [] := List.length_eq_zero_iff.mp h2
      exact ⟨none, 0, by simp [this], by simp [this], .inl this⟩
    · exact ⟨_, cap, rfl, h4.2, .inr ⟨g, 0, cur, e, fz, rfl, hB g (by simp), h2, IsORows.toT sz rows _ B' (fun b hb => hB b (by simp [hb])) h8⟩⟩
theorem IsOs.toT {w : World} {φ : Nat → Prop} : ∀ (ts : List T) (vs : List Value) (B : List Nat), (∀ b ∈ B, φ b) → IsOs w ts vs B → IsTs w φ ts vs
  | [], _, _, _, h => by simp only [IsOs] at h; simp only [IsTs]; exact h.1
  | t :: ts, vs, B, hB, h => by
    simp only [IsOs] at h
    simp only [IsTs]
    obtain ⟨v, vs', B1, B2, h1, rfl, h3, h4⟩ := h
    exact ⟨v, vs', h1, IsO.toT t v B1 (fun b hb => hB b (by simp [hb])) h3, IsOs.toT ts vs' B2 (fun b hb => hB b (by simp [hb])) h4⟩
theorem IsORows.toT {w : World} {φ : Nat → Prop} (sz : Nat) : ∀ (rs : List (List T)) (vs : List Value) (B : List Nat), (∀ b ∈ B, φ b) → IsORows w sz rs vs B → IsTRows w φ sz rs (vs.drop 0)
  | [], _, _, _, h => by simp only [IsTRows]
  | r :: rs, vs, B, hB, h => by
    simp only [IsORows] at h
    simp only [List.drop_zero, IsTRows]
    obtain ⟨B1, B2, rfl, h2, h3, h4⟩ := h
    have := IsORows.toT sz rs (vs.drop sz) B2 (fun b hb => hB b (by simp [hb])) h4
    simp only [List.drop_zero] at this
    exact ⟨h2, IsOs.toT r _ B1 (fun b hb => hB b (by simp [hb])) h3, this⟩
end
theorem cellsToT_length : ∀ {cs : List C} {ts : List T}, cellsToT cs = some ts → ts.length = cs.length
  | [], ts, h => by simp only [cellsToT, Option.some.injEq] at h; subst h; rfl
  | c :: cs, ts, h => by
    simp only [cellsToT] at h
    cases h1 : c.toT with
    | none => simp [h1] at h
    | some t =>
      cases h2 : cellsToT cs with
      | none => simp [h1, h2] at h
      | some ts' =>
        simp only [h1, h2, Option.some.injEq] at h
        subst h
        simp [cellsToT_length h2]
theorem rowsToT_length : ∀ {rs : List (List C)} {ts : List (List T)}, rowsToT rs = some ts → ts.length = rs.length
  | [], ts, h => by simp only [rowsToT, Option.some.injEq] at h; subst h; rfl
  | r :: rs, ts, h => by
    simp only [rowsToT] at h
    cases h1 : cellsToT r with
    | none => simp [h1] at h
    | some t =>
      cases h2 : rowsToT rs with
      | none => simp [h1, h2] at h
      | some ts' =>
        simp only [h1, h2, Option.some.injEq] at h
        subst h
        simp [rowsToT_length h2]
mutual
theorem IsC.toT {w : World} {Φ : Bool → Nat → Prop} {φ : Nat → Prop} (hΦ : ∀ x b, Φ x b → φ b) : ∀ (c : C) (t : T) (v : Value) (B : List Nat), c.toT = some t → (∀ b ∈ B, φ b) → IsC w Φ c v B → IsT w φ t v
  | .im x t0, t, v, B, ht, hB, h => by
    simp only [C.toT, Option.some.injEq] at ht
    subst ht
    simp only [IsC] at h
    exact IsT.mono (hΦ x) (fun _ _ => rfl) _ _ h.2
  | .ow t0, t, v, B, ht, hB, h => by
    simp only [C.toT, Option.some.injEq] at ht
    subst ht
    simp only [IsC] at h
    exact IsO.toT _ _ _ hB h
  | .own sz rows, t, v, B, ht, hB, h => by
    simp only [C.toT, Option.map_eq_some_iff] at ht
    obtain ⟨rs, hr, rfl⟩ := ht
    simp only [IsC] at h
    simp only [IsT]
    have hl : rs.length = rows.length := rowsToT_length hr
    rcases h with ⟨rfl, h2, rfl⟩ | ⟨g, cap, cur, e, fz, B', rfl, h2, h3, h4, h5, h6, rfl, h8⟩
    · have : rs = [] := List.length_eq_zero_iff.mp (hl.trans h2)
      exact ⟨none, 0, by simp [this], by simp [this], .inl this⟩
    · have := IsCRows.toT hΦ sz rows rs _ B' hr (fun b hb => hB b (by simp [hb])) h8
      exact ⟨_, cap, by rw [hl], by rw [hl]; exact h4.2, .inr ⟨g, 0, cur, e, fz, rfl, hB g (by simp), h2, this⟩⟩
  | .hole, t, v, B, ht, _, _ => by simp [C.toT] at ht
theorem IsCs.toT {w : World} {Φ : Bool → Nat → Prop} {φ : Nat → Prop} (hΦ : ∀ x b, Φ x b → φ b) : ∀ (cs : List C) (ts : List T) (vs : List Value) (B : List Nat), cellsToT cs = some ts → (∀ b ∈ B, φ b) → IsCs w Φ cs vs B → IsTs w φ ts vs
  | [], ts, vs, B, ht, hB, h => by
    simp only [cellsToT, Option.some.injEq] at ht
    subst ht
    simp only [IsCs] at h
    simp only [IsTs]
    exact h.1
  | c :: cs, ts, vs, B, ht, hB, h => by
    simp only [cellsToT] at ht
    cases h1 : c.toT with
    | none => simp [h1] at ht
    | some t =>
      cases h2 : cellsToT cs with
      | none => simp [h1, h2] at ht
      | some ts' =>
        simp only [h1, h2, Option.some.injEq] at ht
        subst ht
        simp only [IsCs] at h
        obtain ⟨v, vs', B1, B2, rfl, rfl, h3, h4⟩ := h
        simp only [IsTs]
        exact ⟨v, vs', rfl, IsC.toT hΦ c t v B1 h1 (fun b hb => hB b (by simp [hb])) h3, IsCs.toT hΦ cs ts' vs' B2 h2 (fun b hb => hB b (by simp [hb])) h4⟩
theorem IsCRows.toT {w : World} {Φ : Bool → Nat → Prop} {φ : Nat → Prop} (hΦ : ∀ x b, Φ x b → φ b) (sz : Nat) : ∀ (rs : List (List C)) (ts : List (List T)) (vs : List Value) (B : List Nat), rowsToT rs = some ts → (∀ b ∈ B, φ b) → IsCRows w Φ sz rs vs B → IsTRows w φ sz ts (vs.drop 0)
  | [], ts, vs, B, ht, hB, h => by
    simp only [rowsToT, Option.some.injEq] at ht
    subst ht
    simp only [IsTRows]
  | r :: rs, ts, vs, B, ht, hB, h => by
    simp only [rowsToT] at ht
    cases h1 : cellsToT r with
    | none => simp [h1] at ht
    | some t =>
      cases h2 : rowsToT rs with
      | none => simp [h1, h2] at ht
      | some ts' =>
        simp only [h1, h2, Option.some.injEq] at ht
        subst ht
        simp only [IsCRows] at h
        obtain ⟨B1, B2, rfl, h5, h6, h7⟩ := h
        have a1 := IsCs.toT hΦ r t _ B1 h1 (fun b hb => hB b (by simp [hb])) h6
        have a2 := IsCRows.toT hΦ sz rs ts' (vs.drop sz) B2 h2 (fun b hb => hB b (by simp [hb])) h7
        simp only [List.drop_zero] at a2
        simp only [List.drop_zero, IsTRows]
        exact ⟨(cellsToT_length h1).trans h5, a1, a2⟩
end
end Go.Proofs.YtckojpaklblnpaaGreatDoor.Ev
/- One row of an owned slice taken out and put back; a path into an object. -/
set_option linter.unusedVariables false
set_option linter.unusedSimpArgs false
namespace Go.Proofs.YtckojpaklblnpaaGreatDoor.Ev
open Go Go.RowKit
structure Keeps (w w' : World) (Φ Φ' : Bool → Nat → Prop) (L : List Nat) : Prop where
  mono : ∀ x b, Φ x b → Φ' x b
  ro : ∀ x b, Φ x b → w'.heap[b]? = w.heap[b]?
  own : ∀ b ∈ L, w'.heap[b]? = w.heap[b]?
theorem Keeps.sub {w w' : World} {Φ Φ' : Bool → Nat → Prop} {L L' : List Nat} (h : Keeps w w' Φ Φ' L) (hL : ∀ b ∈ L', b ∈ L) : Keeps w w' Φ Φ' L' :=
  ⟨h.mono, h.ro, fun b hb => h.own b (hL b hb)⟩
theorem Keeps.refl (w : World) (Φ : Bool → Nat → Prop) (L : List Nat) : Keeps w w Φ Φ L := ⟨fun _ _ h => h, fun _ _ _ => rfl, fun _ _ => rfl⟩
theorem IsCs.keep {w w' : World} {Φ Φ' : Bool → Nat → Prop} {cs : List C} {vs : List Value} {B : List Nat} (h : IsCs w Φ cs vs B) (k : Keeps w w' Φ Φ' B) : IsCs w' Φ' cs vs B := IsCs.stable k.mono k.ro _ _ _ k.own h
theorem IsC.keep {w w' : World} {Φ Φ' : Bool → Nat → Prop} {c : C} {v : Value} {B : List Nat} (h : IsC w Φ c v B) (k : Keeps w w' Φ Φ' B) : IsC w' Φ' c v B := IsC.stable k.mono k.ro _ _ _ k.own h
theorem IsCRows.keep {w w' : World} {Φ Φ' : Bool → Nat → Prop} {sz : Nat} {rs : List (List C)} {vs : List Value} {B : List Nat} (h : IsCRows w Φ sz rs vs B) (k : Keeps w w' Φ Φ' B) : IsCRows w' Φ' sz rs vs B := IsCRows.stable k.mono k.ro sz _ _ _ k.own h
theorem drop_ext {vs vs' : List Value} {n : Nat} (h : ∀ j, n ≤ j → vs'[j]? = vs[j]?) : vs'.drop n = vs.drop n := by
  apply List.ext_getElem?
  intro j
  rw [List.getElem?_drop, List.getElem?_drop]
  exact h _ (by omega)
theorem take_ext {vs vs' : List Value} {n : Nat} (h : ∀ j, j < n → vs'[j]? = vs[j]?) : vs'.take n = vs.take n := by
  apply List.ext_getElem?
  intro j
  rw [List.getElem?_take, List.getElem?_take]
  split
  · exact h _ ‹_›
  · rfl
theorem IsCRows.at_ {w : World} {Φ : Bool → Nat → Prop} {sz : Nat} : ∀ (rows : List (List C)) (vs : List Value) (B : List Nat) (i : Nat) (r : List C), IsCRows w Φ sz rows vs B → rows[i]? = some r → ∃ Br, (∀ b ∈ Br, b ∈ B) ∧ IsCs w Φ r ((vs.drop (i * sz)).take sz) Br
  | [], vs, B, i, r, _, hr => by simp at hr
  | r0 :: rs, vs, B, 0, r, h, hr => by
    simp only [List.getElem?_cons_zero, Option.some.injEq] at hr
    subst hr
    simp only [IsCRows] at h
    obtain ⟨B1, B2, rfl, h2, h3, h4⟩ := h
    exact ⟨B1, fun b hb => by simp [hb], by simpa using h3⟩
  | r0 :: rs, vs, B, i + 1, r, h, hr => by
    simp only [List.getElem?_cons_succ] at hr
    simp only [IsCRows] at h
    obtain ⟨B1, B2, rfl, h2, h3, h4⟩ := h
    obtain ⟨Br, e1, e2⟩ := IsCRows.at_ rs (vs.drop sz) B2 i r h4 hr
    rw [List.drop_drop, show sz + i * sz = (i + 1) * sz by rw [Nat.succ_mul]; omega] at e2
    exact ⟨Br, fun b hb => by simp [e1 b hb], e2⟩
theorem IsCs.at_ {w : World} {Φ : Bool → Nat → Prop} : ∀ {cs : List C} {vs : List Value} {B : List Nat} {c : Nat} {x : C} {v : Value}, IsCs w Φ cs vs B → cs[c]? = some x → vs[c]? = some v → ∃ Bx, (∀ b ∈ Bx, b ∈ B) ∧ IsC w Φ x v Bx
  | [], _, _, _, _, _, _, hx, _ => by simp at hx
  | c0 :: cs, _, _, 0, x, v, h, hx, hv => by
    simp only [IsCs] at h
    obtain ⟨v0, vs', B1, B2, rfl, rfl, h3, h4⟩ := h
    simp only [List.getElem?_cons_zero, Option.some.injEq] at hx hv
    subst hx
    subst hv
    exact ⟨B1, fun b hb => by simp [hb], h3⟩
  | c0 :: cs, _, _, c + 1, x, v, h, hx, hv => by
    simp only [IsCs] at h
    obtain ⟨v0, vs', B1, B2, rfl, rfl, h3, h4⟩ := h
    simp only [List.getElem?_cons_succ] at hx hv
    obtain ⟨Bx, e1, e2⟩ := h4.at_ hx hv
    exact ⟨Bx, fun b hb => by simp [e1 b hb], e2⟩
theorem IsCRows.focus {w : World} {Φ : Bool → Nat → Prop} {sz : Nat} : ∀ (rows : List (List C)) (vs : List Value) (B : List Nat) (i : Nat) (r : List C), IsCRows w Φ sz rows vs B → rows[i]? = some r →
    ∃ X Br Y, B = X ++ (Br ++ Y) ∧ r.length = sz ∧ IsCs w Φ r ((vs.drop (i * sz)).take sz) Br ∧
      (∀ (j : Nat) (r2 : List C), j ≠ i → rows[j]? = some r2 → ∃ Bj, (∀ b ∈ Bj, b ∈ X ++ Y) ∧ IsCs w Φ r2 ((vs.drop (j * sz)).take sz) Bj) ∧
      ∀ (w' : World) (Φ' : Bool → Nat → Prop) (vs' : List Value) (r' : List C) (Br' : List Nat), Keeps w w' Φ Φ' (X ++ Y) → (∀ j, j < i * sz ∨ i * sz + sz ≤ j → vs'[j]? = vs[j]?) →
        IsCs w' Φ' r' ((vs'.drop (i * sz)).take sz) Br' → r'.length = sz → IsCRows w' Φ' sz (rows.set i r') vs' (X ++ (Br' ++ Y))
  | [], vs, B, i, r, _, hr => by simp at hr
  | r0 :: rs, vs, B, 0, r, h, hr => by
    simp only [List.getElem?_cons_zero, Option.some.injEq] at hr
    subst hr
    simp only [IsCRows] at h
    obtain ⟨B1, B2, rfl, h2, h3, h4⟩ := h
    refine ⟨[], B1, B2, rfl, h2, by simpa using h3, ?_, ?_⟩
    · intro j r2 hj hr2
      obtain ⟨j, rfl⟩ : ∃ m, j = m + 1 := ⟨j - 1, by omega⟩
      simp only [List.getElem?_cons_succ] at hr2
      obtain ⟨Bj, e1, e2⟩ := IsCRows.at_ rs _ _ j r2 h4 hr2
      rw [List.drop_drop, show sz + j * sz = (j + 1) * sz by rw [Nat.succ_mul]; omega] at e2
      exact ⟨Bj, by simpa using e1, e2⟩
    intro w' Φ' vs' r' Br' hk hv hr' hl
    simp only [List.nil_append] at hk ⊢
    simp only [List.set_cons_zero, IsCRows]
    refine ⟨Br', B2, rfl, hl, by simpa using hr', ?_⟩
    rw [drop_ext (vs := vs) (vs' := vs') (n := sz) (fun j hj => hv j (by omega))]
    exact h4.keep hk
  | r0 :: rs, vs, B, i + 1, r, h, hr => by
    simp only [List.getElem?_cons_succ] at hr
    simp only [IsCRows] at h
    obtain ⟨B1, B2, rfl, h2, h3, h4⟩ := h
    obtain ⟨X, Br, Y, rfl, e2, e3, e5, e4⟩ := IsCRows.focus rs (vs.drop sz) B2 i r h4 hr
    refine ⟨B1 ++ X, Br, Y, by simp [List.append_assoc], e2, ?_, ?_, ?_⟩
    · rw [List.drop_drop, show sz + i * sz = (i + 1) * sz by rw [Nat.succ_mul]; omega] at e3
      exact e3
    · intro j r2 hj hr2
      cases j with
      | zero =>
        simp only [List.getElem?_cons_zero, Option.some.injEq] at hr2
        subst hr2
        exact ⟨B1, fun b hb => by simp [hb], by simpa using h3⟩
      | succ j =>
        simp only [List.getElem?_cons_succ] at hr2
        obtain ⟨Bj, f1, f2⟩ := e5 j r2 (by omega) hr2
        rw [List.drop_drop, show sz + j * sz = (j + 1) * sz by rw [Nat.succ_mul]; omega] at f2
        exact ⟨Bj, fun b hb => by have := f1 b hb; simp at this ⊢; rcases this with h | h <;> simp [h], f2⟩
    · intro w' Φ' vs' r' Br' hk hv hr' hl
      simp only [List.set_cons_succ, IsCRows]
      have hm : (i + 1) * sz = sz + i * sz := by rw [Nat.succ_mul]; omega
      refine ⟨B1, X ++ (Br' ++ Y), by simp [List.append_assoc], h2, ?_, ?_⟩
      · rw [take_ext (vs := vs) (vs' := vs') (n := sz) (fun j hj => hv j (by omega))]
        exact h3.keep (hk.sub (by simp; intro b hb; simp [hb]))
      · refine e4 w' Φ' (vs'.drop sz) r' Br' (hk.sub (by intro b hb; simp at hb ⊢; rcases hb with hb | hb <;> simp [hb])) ?_ ?_ hl
        · intro j hj
          rw [List.getElem?_drop, List.getElem?_drop]
          exact hv _ (by omega)
        · rw [List.drop_drop, ← hm]
          exact hr'
theorem IsCs.focus {w : World} {Φ : Bool → Nat → Prop} : ∀ (cs : List C) (vs : List Value) (B : List Nat) (i : Nat) (x : C), IsCs w Φ cs vs B → cs[i]? = some x →
    ∃ X Bx Y v, B = X ++ (Bx ++ Y) ∧ vs[i]? = some v ∧ IsC w Φ x v Bx ∧
      (∀ (j : Nat) (x2 : C) (v2 : Value), j ≠ i → cs[j]? = some x2 → vs[j]? = some v2 → ∃ Bj, (∀ b ∈ Bj, b ∈ X ++ Y) ∧ IsC w Φ x2 v2 Bj) ∧
      ∀ (w' : World) (Φ' : Bool → Nat → Prop) (x' : C) (Bx' : List Nat), Keeps w w' Φ Φ' (X ++ Y) → IsC w' Φ' x' v Bx' → IsCs w' Φ' (cs.set i x') vs (X ++ (Bx' ++ Y))
  | [], vs, B, i, r, _, hr => by simp at hr
  | c :: cs, vs, B, 0, x, h, hr => by
    simp only [List.getElem?_cons_zero, Option.some.injEq] at hr
    subst hr
    simp only [IsCs] at h
    obtain ⟨v, vs', B1, B2, rfl, rfl, h3, h4⟩ := h
    refine ⟨[], B1, B2, v, rfl, rfl, h3, ?_, ?_⟩
    · intro j x2 v2 hj hx2 hv2
      obtain ⟨j, rfl⟩ : ∃ m, j = m + 1 := ⟨j - 1, by omega⟩
      simp only [List.getElem?_cons_succ] at hx2 hv2
      obtain ⟨Bj, e1, e2⟩ := h4.at_ hx2 hv2
      exact ⟨Bj, by simpa using e1, e2⟩
    intro w' Φ' x' Bx' hk hx'
    simp only [List.nil_append] at hk ⊢
    simp only [List.set_cons_zero, IsCs]
    exact ⟨v, vs', Bx', B2, rfl, rfl, hx', h4.keep hk⟩
  | c :: cs, vs, B, i + 1, x, h, hr => by
    simp only [List.getElem?_cons_succ] at hr
    simp only [IsCs] at h
    obtain ⟨v, vs', B1, B2, rfl, rfl, h3, h4⟩ := h
    obtain ⟨X, Bx, Y, v1, rfl, e2, e3, e5, e4⟩ := IsCs.focus cs vs' B2 i x h4 hr
    refine ⟨B1 ++ X, Bx, Y, v1, by simp [List.append_assoc], by simpa using e2, e3, ?_, ?_⟩
    · intro j x2 v2 hj hx2 hv2
      cases j with
      | zero =>
        simp only [List.getElem?_cons_zero, Option.some.injEq] at hx2 hv2
        subst hx2
        subst hv2
        exact ⟨B1, fun b hb => by simp [hb], h3⟩
      | succ j =>
        simp only [List.getElem?_cons_succ] at hx2 hv2
        obtain ⟨Bj, f1, f2⟩ := e5 j x2 v2 (by omega) hx2 hv2
        exact ⟨Bj, fun b hb => by have := f1 b hb; simp at this ⊢; rcases this with h | h <;> simp [h], f2⟩
    intro w' Φ' x' Bx' hk hx'
    simp only [List.set_cons_succ, IsCs]
    exact ⟨v, vs', B1, X ++ (Bx' ++ Y), rfl, by simp [List.append_assoc], h3.keep (hk.sub (by intro b hb; simp [hb])),
      e4 w' Φ' x' Bx' (hk.sub (by intro b hb; simp at hb ⊢; rcases hb with hb | hb <;> simp [hb])) hx'⟩
/-! ### owned trees, cell by cell -/
theorem IsOs.cells {w : World} {Φ : Bool → Nat → Prop} : ∀ {ts : List T} {vs : List Value} {B : List Nat}, IsOs w ts vs B → IsCs w Φ (ts.map C.ow) vs B
  | [], _, _, h => by simp only [IsOs] at h; simp only [List.map_nil, IsCs]; exact h
  | t :: ts, _, _, h => by
    simp only [IsOs] at h
    obtain ⟨v, vs', B1, B2, rfl, rfl, h3, h4⟩ := h
    simp only [List.map_cons, IsCs]
    exact ⟨v, vs', B1, B2, rfl, rfl, by simpa only [IsC] using h3, h4.cells⟩
theorem IsORows.cells {w : World} {Φ : Bool → Nat → Prop} {sz : Nat} : ∀ {rs : List (List T)} {vs : List Value} {B : List Nat}, IsORows w sz rs vs B → IsCRows w Φ sz (rs.map (·.map C.ow)) vs B
  | [], _, _, h => by simp only [IsORows] at h; simp only [List.map_nil, IsCRows]; exact h
  | r :: rs, _, _, h => by
    simp only [IsORows] at h
    obtain ⟨B1, B2, rfl, h2, h3, h4⟩ := h
    simp only [List.map_cons, IsCRows]
    exact ⟨B1, B2, rfl, by simpa using h2, h3.cells, h4.cells⟩
theorem IsOs.ofCells {w : World} {Φ : Bool → Nat → Prop} : ∀ {ts : List T} {vs : List Value} {B : List Nat}, IsCs w Φ (ts.map C.ow) vs B → IsOs w ts vs B
  | [], _, _, h => by simp only [List.map_nil, IsCs] at h; simp only [IsOs]; exact h
  | t :: ts, _, _, h => by
    simp only [List.map_cons, IsCs] at h
    obtain ⟨v, vs', B1, B2, rfl, rfl, h3, h4⟩ := h
    simp only [IsOs]
    exact ⟨v, vs', B1, B2, rfl, rfl, by simpa only [IsC] using h3, IsOs.ofCells h4⟩
theorem IsORows.ofCells {w : World} {Φ : Bool → Nat → Prop} {sz : Nat} : ∀ {rs : List (List T)} {vs : List Value} {B : List Nat}, IsCRows w Φ sz (rs.map (·.map C.ow)) vs B → IsORows w sz rs vs B
  | [], _, _, h => by simp only [List.map_nil, IsCRows] at h; simp only [IsORows]; exact h
  | r :: rs, _, _, h => by
    simp only [List.map_cons, IsCRows] at h
    obtain ⟨B1, B2, rfl, h2, h3, h4⟩ := h
    simp only [IsORows]
    exact ⟨B1, B2, rfl, by simpa using h2, IsOs.ofCells h3, IsORows.ofCells h4⟩
theorem ownedAll_length : ∀ {cs : List C} {ts : List T}, ownedAll cs = some ts → ts.length = cs.length
  | [], ts, h => by simp only [ownedAll, Option.some.injEq] at h; subst h; rfl
  | c :: cs, ts, h => by
    simp only [ownedAll] at h
    cases h1 : c.owned with
    | none => simp [h1] at h
    | some t =>
      cases h2 : ownedAll cs with
      | none => simp [h1, h2] at h
      | some ts' =>
        simp only [h1, h2, Option.some.injEq] at h
        subst h
        simp [ownedAll_length h2]
theorem ownedRows_length : ∀ {rs : List (List C)} {ts : List (List T)}, ownedRows rs = some ts → ts.length = rs.length
  | [], ts, h => by simp only [ownedRows, Option.some.injEq] at h; subst h; rfl
  | r :: rs, ts, h => by
    simp only [ownedRows] at h
    cases h1 : ownedAll r with
    | none => simp [h1] at h
    | some t =>
      cases h2 : ownedRows rs with
      | none => simp [h1, h2] at h
      | some ts' =>
        simp only [h1, h2, Option.some.injEq] at h
        subst h
        simp [ownedRows_length h2]
mutual
theorem IsC.ofOwned {w : World} {Φ : Bool → Nat → Prop} : ∀ (c : C) (t : T) (v : Value) (B : List Nat), c.owned = some t → IsC w Φ c v B → IsO w t v B
  | .im x (.lit u), t, v, B, ht, h => by
    simp only [C.owned, Option.some.injEq] at ht
    subst ht
    simp only [IsC, IsT] at h
    simp only [IsO]
    exact ⟨h.2.1, h.2.2, h.1⟩
  | .im x (.sl a b), t, v, B, ht, h => by simp [C.owned] at ht
  | .ow t0, t, v, B, ht, h => by
    simp only [C.owned, Option.some.injEq] at ht
    subst ht
    simpa only [IsC] using h
  | .own sz rows, t, v, B, ht, h => by
    simp only [C.owned, Option.map_eq_some_iff] at ht
    obtain ⟨rs, hr, rfl⟩ := ht
    simp only [IsC] at h
    simp only [IsO]
    rw [ownedRows_length hr]
    exact h.imp (fun _ _ => rfl) fun vs B' _ h' => IsCRows.ofOwned sz rows rs vs B' hr h'
  | .hole, t, v, B, ht, _ => by simp [C.owned] at ht
theorem IsCs.ofOwned {w : World} {Φ : Bool → Nat → Prop} : ∀ (cs : List C) (ts : List T) (vs : List Value) (B : List Nat), ownedAll cs = some ts → IsCs w Φ cs vs B → IsOs w ts vs B
  | [], ts, vs, B, ht, h => by
    simp only [ownedAll, Option.some.injEq] at ht
    subst ht
    simp only [IsCs] at h
    simp only [IsOs]
    exact h
  | c :: cs, ts, vs, B, ht, h => by
    simp only [ownedAll] at ht
    cases h1 : c.owned with
    | none => simp [h1] at ht
    | some t =>
      cases h2 : ownedAll cs with
      | none => simp [h1, h2] at ht
      | some ts' =>
        simp only [h1, h2, Option.some.injEq] at ht
        subst ht
        simp only [IsCs] at h
        obtain ⟨v, vs', B1, B2, rfl, rfl, h3, h4⟩ := h
        simp only [IsOs]
        exact ⟨v, vs', B1, B2, rfl, rfl, IsC.ofOwned c t v B1 h1 h3, IsCs.ofOwned cs ts' vs' B2 h2 h4⟩
theorem IsCRows.ofOwned {w : World} {Φ : Bool → Nat → Prop} (sz : Nat) : ∀ (rs : List (List C)) (ts : List (List T)) (vs : List Value) (B : List Nat), ownedRows rs = some ts → IsCRows w Φ sz rs vs B → IsORows w sz ts vs B
  | [], ts, vs, B, ht, h => by
    simp only [ownedRows, Option.some.injEq] at ht
    subst ht
    simp only [IsCRows] at h
    simp only [IsORows]
    exact h
  | r :: rs, ts, vs, B, ht, h => by
    simp only [ownedRows] at ht
    cases h1 : ownedAll r with
    | none => simp [h1] at ht
    | some t =>
      cases h2 : ownedRows rs with
      | none => simp [h1, h2] at ht
      | some ts' =>
        simp only [h1, h2, Option.some.injEq] at ht
        subst ht
        simp only [IsCRows] at h
        obtain ⟨B1, B2, rfl, h5, h6, h7⟩ := h
        simp only [IsORows]
        exact ⟨B1, B2, rfl, (ownedAll_length h1).trans h5, IsCs.ofOwned r t _ B1 h1 h6, IsCRows.ofOwned sz rs ts' _ B2 h2 h7⟩
end
theorem setRow_owned {w : World} {Φ : Bool → Nat → Prop} {r : List C} {vs : List Value} {B : List Nat} {ts : List T} (h : IsCs w Φ r vs B) (ht : ownedAll r = some ts) : IsCs w Φ (ts.map C.ow) vs B :=
  (IsCs.ofOwned r ts vs B ht h).cells
theorem IsC.row {w : World} {Φ : Bool → Nat → Prop} {x : C} {v : Value} {B : List Nat} {i : Nat} {r : List C} (h : IsC w Φ x v B) (hr : x.row i = some r) :
    ∃ g n cap cur e fz X Br Y sz, v = .slice (some ⟨g, 0, none⟩) n cap ∧ x.sz = some sz ∧ x.len = some n ∧ i < n ∧ n ≤ cap ∧ cap ≤ maxLen ∧ w.heap[g]? = some (.cells cur e fz) ∧ (∀ j, j < cur.size → ¬(fz.1 ≤ j ∧ j < fz.2)) ∧ cur.size = cap * sz ∧
      B = g :: (X ++ (Br ++ Y)) ∧ r.length = sz ∧ IsCs w Φ r ((cur.toList.drop (i * sz)).take sz) Br ∧
      (∀ (j : Nat) (r2 : List C), j ≠ i → x.row j = some r2 → ∃ Bj, (∀ b ∈ Bj, b ∈ X ++ Y) ∧ IsCs w Φ r2 ((cur.toList.drop (j * sz)).take sz) Bj) ∧
      ∀ (w' : World) (Φ' : Bool → Nat → Prop) (cur' : Array Value) (r' : List C) (Br' : List Nat) (x' : C), Keeps w w' Φ Φ' (X ++ Y) → w'.heap[g]? = some (.cells cur' e fz) → cur'.size = cur.size →
        (∀ j, j < i * sz ∨ i * sz + sz ≤ j → cur'[j]? = cur[j]?) → IsCs w' Φ' r' ((cur'.toList.drop (i * sz)).take sz) Br' → r'.length = sz → x.setRow i r' = some x' →
        IsC w' Φ' x' v (g :: (X ++ (Br' ++ Y))) ∧ x'.sz = some sz ∧ x'.len = some n := by
  have main : ∀ (sz : Nat) (rows : List (List C)), rows[i]? = some r → OwnSl w sz rows.length v B (fun vs B' => IsCRows w Φ sz rows vs B') →
      ∃ g cap cur e fz X Br Y, v = .slice (some ⟨g, 0, none⟩) rows.length cap ∧ i < rows.length ∧ rows.length ≤ cap ∧ cap ≤ maxLen ∧ w.heap[g]? = some (.cells cur e fz) ∧ (∀ j, j < cur.size → ¬(fz.1 ≤ j ∧ j < fz.2)) ∧ cur.size = cap * sz ∧
      B = g :: (X ++ (Br ++ Y)) ∧ r.length = sz ∧ IsCs w Φ r ((cur.toList.drop (i * sz)).take sz) Br ∧
      (∀ (j : Nat) (r2 : List C), j ≠ i → rows[j]? = some r2 → ∃ Bj, (∀ b ∈ Bj, b ∈ X ++ Y) ∧ IsCs w Φ r2 ((cur.toList.drop (j * sz)).take sz) Bj) ∧
      ∀ (w' : World) (Φ' : Bool → Nat → Prop) (cur' : Array Value) (r' : List C) (Br' : List Nat), Keeps w w' Φ Φ' (X ++ Y) → w'.heap[g]? = some (.cells cur' e fz) → cur'.size = cur.size →
        (∀ j, j < i * sz ∨ i * sz + sz ≤ j → cur'[j]? = cur[j]?) → IsCs w' Φ' r' ((cur'.toList.drop (i * sz)).take sz) Br' → r'.length = sz →
        OwnSl w' sz (rows.set i r').length v (g :: (X ++ (Br' ++ Y))) (fun vs B' => IsCRows w' Φ' sz (rows.set i r') vs B') := by
    intro sz rows hri hO
    have hlt : i < rows.length := by
      rcases Nat.lt_or_ge i rows.length with h | h
      · exact h
      · simp [List.getElem?_eq_none h] at hri
    rcases hO with ⟨_, h2, _⟩ | ⟨g, cap, cur, e, fz, B', rfl, h2, h3, h4, h5, h6, rfl, h8⟩
    · omega
    · obtain ⟨X, Br, Y, rfl, e2, e3, e9, e4⟩ := IsCRows.focus rows cur.toList B' i r h8 hri
      refine ⟨g, cap, cur, e, fz, X, Br, Y, rfl, hlt, h4.2, h5, h2, h3, h6, rfl, e2, e3, e9, ?_⟩
      intro w' Φ' cur' r' Br' hk hg hsz hout hr' hl
      have e5 := e4 w' Φ' cur'.toList r' Br' hk (by intro j hj; simpa using hout j hj) hr' hl
      exact .inr ⟨g, cap, cur', e, fz, _, by simp, hg, by rw [hsz]; exact h3, by simpa using h4, h5, by rw [hsz]; exact h6, rfl, e5⟩
  cases x with
  | im b t => simp [C.row] at hr
  | hole => simp [C.row] at hr
  | own sz rows =>
    simp only [C.row] at hr
    simp only [IsC] at h
    obtain ⟨g, cap, cur, e, fz, X, Br, Y, e1, e2, e3, e4, e5, e6, e7, e8, e9, e10, e12, e11⟩ := main sz rows hr h
    refine ⟨g, rows.length, cap, cur, e, fz, X, Br, Y, sz, e1, rfl, rfl, e2, e3, e4, e5, e6, e7, e8, e9, e10, e12, ?_⟩
    intro w' Φ' cur' r' Br' x' hk hg hsz hout hr' hl hx'
    simp only [C.setRow, Option.some.injEq] at hx'
    subst hx'
    exact ⟨by simp only [IsC]; exact e11 w' Φ' cur' r' Br' hk hg hsz hout hr' hl, rfl, by simp [C.len]⟩
  | ow t =>
    cases t with
    | lit u => simp [C.row] at hr
    | sl sz rows =>
      simp only [C.row, Option.map_eq_some_iff] at hr
      obtain ⟨r0, hr0, rfl⟩ := hr
      simp only [IsC, IsO] at h
      have h' : OwnSl w sz (rows.map (·.map C.ow)).length v B (fun vs B' => IsCRows w Φ sz (rows.map (·.map C.ow)) vs B') := by
        rw [List.length_map]
        exact h.imp (fun _ _ => rfl) fun vs B' _ q => q.cells
      obtain ⟨g, cap, cur, e, fz, X, Br, Y, e1, e2, e3, e4, e5, e6, e7, e8, e9, e10, e12, e11⟩ := main sz _ (by simp [hr0]) h'
      rw [List.length_map] at e1 e2 e3
      refine ⟨g, rows.length, cap, cur, e, fz, X, Br, Y, sz, e1, rfl, rfl, e2, e3, e4, e5, e6, e7, e8, e9, e10, fun j r2 hj h2 => e12 j r2 hj (by simpa [C.row] using h2), ?_⟩
      intro w' Φ' cur' r' Br' x' hk hg hsz hout hr' hl hx'
      simp only [C.setRow] at hx'
      cases ho : ownedAll r' with
      | none =>
        rw [ho] at hx'
        simp only [Option.some.injEq] at hx'
        subst hx'
        exact ⟨by simp only [IsC]; exact e11 w' Φ' cur' r' Br' hk hg hsz hout hr' hl, rfl, by simp [C.len]⟩
      | some ts =>
        rw [ho] at hx'
        simp only [Option.some.injEq] at hx'
        subst hx'
        have q := e11 w' Φ' cur' (ts.map C.ow) Br' hk hg hsz hout (setRow_owned hr' ho) (by simpa using (ownedAll_length ho).trans hl)
        refine ⟨?_, rfl, by simp [C.len]⟩
        simp only [IsC, IsO]
        have hset : (rows.map (·.map C.ow)).set i (ts.map C.ow) = (rows.set i ts).map (·.map C.ow) := by rw [List.map_set]
        rw [hset, List.length_map] at q
        exact q.imp (fun _ _ => rfl) fun vs B' _ q' => IsORows.ofCells q'
end Go.Proofs.YtckojpaklblnpaaGreatDoor.Ev
/- A path into an object: where its row lies, and the object behind a write into that row. -/
set_option linter.unusedVariables false
set_option linter.unusedSimpArgs false
namespace Go.Proofs.YtckojpaklblnpaaGreatDoor.Ev
open Go Go.RowKit
def stepAt (w : World) (x : C) (v : Value) (i : Nat) : Option (Nat × Nat × List C × List Value) :=
  match x.row i, x.sz, v with
  | some r, some sz, .slice (some a) _ _ => match w.heap[a.block]? with
    | some (.cells cur _ _) => some (a.block, i * sz, r, (cur.toList.drop (i * sz)).take sz)
    | _ => none
  | _, _, _ => none
def valsAt (w : World) : List C → List Value → List (Nat × Nat) → Option (List Value)
  | _, vs, [] => some vs
  | cs, vs, (c, i) :: p => match cs[c]?, vs[c]? with
    | some x, some v => match stepAt w x v i with
      | some (_, _, r, rv) => valsAt w r rv p
      | none => none
    | _, _ => none
def addrAt (w : World) : List C → List Value → List (Nat × Nat) → Option (Nat × Nat)
  | _, _, [] => none
  | cs, vs, (c, i) :: p => match cs[c]?, vs[c]? with
    | some x, some v => match stepAt w x v i with
      | some (g, o, r, rv) => match p with
        | [] => some (g, o)
        | q :: p => addrAt w r rv (q :: p)
      | none => none
    | _, _ => none
theorem setRow_cons {cs : List C} {c i : Nat} {p : List (Nat × Nat)} {new cs' : List C} {x : C} {r : List C} (hx : cs[c]? = some x) (hr : x.row i = some r) (h : setRow cs ((c, i) :: p) new = some cs') :
    ∃ r' x', setRow r p new = some r' ∧ x.setRow i r' = some x' ∧ cs' = cs.set c x' := by
  simp only [setRow, hx, hr] at h
  cases h1 : setRow r p new with
  | none => simp [h1] at h
  | some r' =>
    cases h2 : x.setRow i r' with
    | none => simp [h1, h2] at h
    | some x' =>
      simp only [h1, h2, Option.some.injEq] at h
      exact ⟨r', x', rfl, h2, h.symm⟩
theorem getRow_cons {cs : List C} {c i : Nat} {p : List (Nat × Nat)} {row : List C} (h : getRow cs ((c, i) :: p) = some row) : ∃ x r, cs[c]? = some x ∧ x.row i = some r ∧ getRow r p = some row := by
  simp only [getRow] at h
  cases h1 : cs[c]? with
  | none => simp [h1] at h
  | some x =>
    cases h2 : x.row i with
    | none => simp [h1, h2] at h
    | some r =>
      simp only [h1, h2] at h
      exact ⟨x, r, rfl, h2, h⟩
theorem setRow_length : ∀ {p : List (Nat × Nat)} {cs new cs' : List C}, p ≠ [] → setRow cs p new = some cs' → cs'.length = cs.length
  | [], _, _, _, hp, _ => absurd rfl hp
  | (c, i) :: p, cs, new, cs', _, h => by
    simp only [setRow] at h
    cases h1 : cs[c]? with
    | none => simp [h1] at h
    | some x =>
      cases h2 : x.row i with
      | none => simp [h1, h2] at h
      | some r =>
        cases h3 : setRow r p new with
        | none => simp [h1, h2, h3] at h
        | some r' =>
          cases h4 : x.setRow i r' with
          | none => simp [h1, h2, h3, h4] at h
          | some x' =>
            simp only [h1, h2, h3, h4, Option.some.injEq] at h
            subst h
            simp
structure Wrote (w w' : World) (Φ Φ' : Bool → Nat → Prop) (L : List Nat) (g : Nat) : Prop where
  mono : ∀ x b, Φ x b → Φ' x b
  ro : ∀ x b, Φ x b → w'.heap[b]? = w.heap[b]?
  own : ∀ b ∈ L, b ≠ g → w'.heap[b]? = w.heap[b]?
theorem place {w : World} {Φ : Bool → Nat → Prop} : ∀ (p : List (Nat × Nat)) (cs : List C) (vs : List Value) (B : List Nat) (row : List C), IsCs w Φ cs vs B → B.Nodup → getRow cs p = some row → p ≠ [] →
    ∃ g o cur e fz X Br Y rv, addrAt w cs vs p = some (g, o) ∧ valsAt w cs vs p = some rv ∧ B = X ++ (Br ++ Y) ∧ g ∈ X ∧ w.heap[g]? = some (.cells cur e fz) ∧ (∀ j, j < cur.size → ¬(fz.1 ≤ j ∧ j < fz.2)) ∧ o + row.length ≤ cur.size ∧ rv = (cur.toList.drop o).take row.length ∧ IsCs w Φ row rv Br ∧
      ∀ (w' : World) (Φ' : Bool → Nat → Prop) (cur' : Array Value) (row' : List C) (Br' : List Nat) (cs' : List C), Wrote w w' Φ Φ' (X ++ Y) g → w'.heap[g]? = some (.cells cur' e fz) → cur'.size = cur.size →
        (∀ j, j < o ∨ o + row.length ≤ j → cur'[j]? = cur[j]?) → IsCs w' Φ' row' ((cur'.toList.drop o).take row.length) Br' → row'.length = row.length → setRow cs p row' = some cs' → IsCs w' Φ' cs' vs (X ++ (Br' ++ Y))
  | [], _, _, _, _, _, _, _, hp => absurd rfl hp
  | (c, i) :: p, cs, vs, B, row, h, hnd, hg, _ => by
    obtain ⟨x, r, hx, hr, hg'⟩ := getRow_cons hg
    obtain ⟨Xc, Bx, Yc, v, rfl, hv, hxv, _, hcl⟩ := IsCs.focus cs vs B c x h hx
    obtain ⟨g0, n, cap, cur, e, fz, X1, B1, Y1, sz, rfl, hsz, hn, hin, hnc, hcap, hheap, hfz, hcur, rfl, hrl, hrc, _, hrow⟩ := hxv.row hr
    have hstep : stepAt w x (.slice (some ⟨g0, 0, none⟩) n cap) i = some (g0, i * sz, r, (cur.toList.drop (i * sz)).take sz) := by
      simp [stepAt, hr, hsz, hheap]
    have hfit : i * sz + sz ≤ cur.size := by
      rw [hcur, ← Nat.succ_mul]
      exact Nat.mul_le_mul_right _ (by omega)
    cases p with
    | nil =>
      simp only [getRow, Option.some.injEq] at hg'
      subst hg'
      refine ⟨g0, i * sz, cur, e, fz, Xc ++ g0 :: X1, B1, Y1 ++ Yc, _, ?_, ?_, by simp [List.append_assoc], by simp, hheap, hfz, by rw [hrl]; exact hfit, by rw [hrl], hrc, ?_⟩
      · simp [addrAt, hx, hv, hstep]
      · simp [valsAt, hx, hv, hstep]
      · intro w' Φ' cur' row' Br' cs' hw hg2 hs2 hout hr' hl' hset
        obtain ⟨r', x', h1, h2, rfl⟩ := setRow_cons hx hr hset
        simp only [setRow, Option.some.injEq] at h1
        subst h1
        have hne : ∀ b ∈ Xc ++ (X1 ++ (Y1 ++ Yc)), b ≠ g0 := by
          intro b hb e
          subst e
          simp only [List.append_assoc, List.cons_append, List.nodup_append, List.nodup_cons, List.mem_append, List.mem_cons, ne_eq] at hnd hb
          obtain ⟨_, ⟨n1, _⟩, n2⟩ := hnd
          rcases hb with hb | hb | hb | hb
          · exact n2 b hb b (.inl rfl) rfl
          · exact n1 (.inl hb)
          · exact n1 (.inr (.inr (.inl hb)))
          · exact n1 (.inr (.inr (.inr hb)))
        have hk : Keeps w w' Φ Φ' (Xc ++ (X1 ++ (Y1 ++ Yc))) := ⟨hw.mono, hw.ro, fun b hb => hw.own b (by simp at hb ⊢; rcases hb with hb | hb | hb | hb <;> simp [hb]) (hne b hb)⟩
        rw [hrl] at hr'
        have q := hrow w' Φ' cur' row' Br' x' (hk.sub (by intro b hb; simp at hb ⊢; rcases hb with hb | hb <;> simp [hb])) hg2 hs2 (by intro j hj; exact hout j (by rw [hrl]; exact hj)) hr' (hl'.trans hrl) h2
        have q2 := hcl w' Φ' x' _ (hk.sub (by intro b hb; simp at hb ⊢; rcases hb with hb | hb <;> simp [hb])) q.1
        simpa [List.append_assoc] using q2
    | cons q0 p =>
      have hndr : B1.Nodup := by
        simp only [List.append_assoc, List.cons_append, List.nodup_append, List.nodup_cons] at hnd
        exact hnd.2.1.2.2.1.1
      obtain ⟨g, o, cur2, e2, fz2, X2, Br, Y2, rv, a1, a2, rfl, a4, a5, a6, a7, a8, a9, a10⟩ := place (q0 :: p) r _ B1 row hrc hndr hg' (by simp)
      refine ⟨g, o, cur2, e2, fz2, Xc ++ g0 :: (X1 ++ X2), Br, Y2 ++ (Y1 ++ Yc), rv, ?_, ?_, by simp [List.append_assoc], by simp [a4], a5, a6, a7, a8, a9, ?_⟩
      · simp [addrAt, hx, hv, hstep, a1]
      · rw [valsAt]; simp only [hx, hv, hstep]; exact a2
      · intro w' Φ' cur' row' Br' cs' hw hg2 hs2 hout hr' hl' hset
        obtain ⟨r', x', h1, h2, rfl⟩ := setRow_cons hx hr hset
        have hne : ∀ b ∈ Xc ++ (g0 :: (X1 ++ (Y1 ++ Yc))), b ≠ g := by
          intro b hb e
          subst e
          simp only [List.append_assoc, List.cons_append, List.nodup_append, List.nodup_cons, List.mem_append, List.mem_cons, ne_eq] at hnd hb
          obtain ⟨_, ⟨n1, ⟨_, ⟨n3, n4⟩⟩⟩, n2⟩ := hnd
          rcases hb with hb | hb | hb | hb | hb
          · exact n2 b hb b (.inr (.inr (.inl a4))) rfl
          · subst hb
            exact n1 (.inr (.inl a4))
          · exact n4 b hb b (.inl a4) rfl
          · exact n3.2.2 b a4 b (.inr (.inr (.inl hb))) rfl
          · exact n3.2.2 b a4 b (.inr (.inr (.inr hb))) rfl
        have hk : Keeps w w' Φ Φ' (Xc ++ (g0 :: (X1 ++ (Y1 ++ Yc)))) := ⟨hw.mono, hw.ro, fun b hb => hw.own b (by simp at hb ⊢; rcases hb with hb | hb | hb | hb | hb <;> simp [hb]) (hne b hb)⟩
        have q := a10 w' Φ' cur' row' Br' r' ⟨hw.mono, hw.ro, fun b hb => hw.own b (by simp at hb ⊢; rcases hb with hb | hb <;> simp [hb])⟩ hg2 hs2 hout hr' hl' h1
        have hg0 : w'.heap[g0]? = some (.cells cur e fz) := (hk.own g0 (by simp)).trans hheap
        have q1 := hrow w' Φ' cur r' _ x' (hk.sub (by intro b hb; simp at hb ⊢; rcases hb with hb | hb <;> simp [hb])) hg0 rfl (fun _ _ => rfl) q ((setRow_length (by simp) h1).trans hrl) h2
        have q2 := hcl w' Φ' x' _ (hk.sub (by intro b hb; simp at hb ⊢; rcases hb with hb | hb <;> simp [hb])) q1.1
        simpa [List.append_assoc] using q2
end Go.Proofs.YtckojpaklblnpaaGreatDoor.Ev
/- Paths stand where nothing on their way is turned; a write turns just what it overwrites. -/
set_option linter.unusedVariables false
set_option linter.unusedSimpArgs false
namespace Go.Proofs.YtckojpaklblnpaaGreatDoor.Ev
open Go Go.RowKit
theorem stepAt_row {w : World} {Φ : Bool → Nat → Prop} {x : C} {v : Value} {B : List Nat} {i : Nat} {r : List C} (h : IsC w Φ x v B) (hr : x.row i = some r) :
    ∃ g o rv Br, stepAt w x v i = some (g, o, r, rv) ∧ g ∈ B ∧ (∀ b ∈ Br, b ∈ B) ∧ IsCs w Φ r rv Br := by
  obtain ⟨g, n, cap, cur, e, fz, X, Br, Y, sz, rfl, hsz, hn, hin, hnc, hcap, hheap, hfz, hcur, rfl, hrl, hrc, _, _⟩ := h.row hr
  exact ⟨g, i * sz, _, Br, by simp [stepAt, hr, hsz, hheap], by simp, fun b hb => by simp [hb], hrc⟩
theorem stepAt_keep {w w' : World} {Φ : Bool → Nat → Prop} {x : C} {v : Value} {B : List Nat} {i : Nat} {r : List C} (h : IsC w Φ x v B) (hr : x.row i = some r) (hk : ∀ b ∈ B, w'.heap[b]? = w.heap[b]?) : stepAt w' x v i = stepAt w x v i := by
  obtain ⟨g, n, cap, cur, e, fz, X, Br, Y, sz, rfl, hsz, hn, hin, hnc, hcap, hheap, hfz, hcur, rfl, hrl, hrc, _, _⟩ := h.row hr
  simp [stepAt, hr, hsz, hk g (by simp)]
theorem path_keep {w w' : World} {Φ : Bool → Nat → Prop} : ∀ (p : List (Nat × Nat)) (cs : List C) (vs : List Value) (B : List Nat), IsCs w Φ cs vs B → (∀ b ∈ B, w'.heap[b]? = w.heap[b]?) →
    valsAt w' cs vs p = valsAt w cs vs p ∧ addrAt w' cs vs p = addrAt w cs vs p
  | [], _, _, _, _, _ => ⟨rfl, rfl⟩
  | (c, i) :: p, cs, vs, B, h, hk => by
    rw [valsAt, valsAt, addrAt, addrAt]
    cases hx : cs[c]? with
    | none => exact ⟨rfl, rfl⟩
    | some x =>
      cases hv : vs[c]? with
      | none => exact ⟨rfl, rfl⟩
      | some v =>
        obtain ⟨Bx, hB, hc⟩ := h.at_ hx hv
        cases hr : x.row i with
        | none =>
          have e : ∀ w0, stepAt w0 x v i = none := fun w0 => by simp [stepAt, hr]
          simp only [e]
          exact ⟨trivial, trivial⟩
        | some r =>
          obtain ⟨g, o, rv, Br, h1, h2, h3, h4⟩ := stepAt_row hc hr
          have h5 := stepAt_keep (w' := w') hc hr (fun b hb => hk b (hB b hb))
          have ih := path_keep (w' := w') p r rv Br h4 (fun b hb => hk b (hB b (h3 b hb)))
          simp only [h5, h1]
          refine ⟨ih.1, ?_⟩
          cases p with
          | nil => rfl
          | cons q p => exact ih.2
theorem setRow_row {x x' : C} {i j : Nat} {r' : List C} (h : x.setRow i r' = some x') (hij : j ≠ i) : x'.row j = x.row j := by
  cases x with
  | im b t => simp [C.setRow] at h
  | hole => simp [C.setRow] at h
  | own sz rows =>
    simp only [C.setRow, Option.some.injEq] at h
    subst h
    simp only [C.row]
    rw [List.getElem?_set_ne (fun e => hij e.symm)]
  | ow t =>
    cases t with
    | lit u => simp [C.setRow] at h
    | sl sz rows =>
      simp only [C.setRow] at h
      cases ho : ownedAll r' with
      | none =>
        rw [ho] at h
        simp only [Option.some.injEq] at h
        subst h
        simp only [C.row]
        rw [List.getElem?_set_ne (fun e => hij e.symm), List.getElem?_map]
      | some ts =>
        rw [ho] at h
        simp only [Option.some.injEq] at h
        subst h
        simp only [C.row]
        rw [List.getElem?_set_ne (fun e => hij e.symm)]
theorem setRow_sz {x x' : C} {i : Nat} {r' : List C} (h : x.setRow i r' = some x') : x'.sz = x.sz := by
  cases x with
  | im b t => simp [C.setRow] at h
  | hole => simp [C.setRow] at h
  | own sz rows =>
    simp only [C.setRow, Option.some.injEq] at h
    subst h
    rfl
  | ow t =>
    cases t with
    | lit u => simp [C.setRow] at h
    | sl sz rows =>
      simp only [C.setRow] at h
      cases ho : ownedAll r' with
      | none => rw [ho] at h; simp only [Option.some.injEq] at h; subst h; rfl
      | some ts => rw [ho] at h; simp only [Option.some.injEq] at h; subst h; rfl
theorem setRow_same {x x' : C} {i : Nat} {r r' : List C} (h : x.setRow i r' = some x') (hr : x.row i = some r) : ∃ r2, x'.row i = some r2 ∧ (r2 = r' ∨ ∃ ts, ownedAll r' = some ts ∧ r2 = ts.map C.ow) := by
  cases x with
  | im b t => simp [C.setRow] at h
  | hole => simp [C.setRow] at h
  | own sz rows =>
    simp only [C.row] at hr
    simp only [C.setRow, Option.some.injEq] at h
    subst h
    have hlt : i < rows.length := by
      rcases Nat.lt_or_ge i rows.length with h | h
      · exact h
      · simp [List.getElem?_eq_none h] at hr
    exact ⟨r', by simp [C.row, hlt], .inl rfl⟩
  | ow t =>
    cases t with
    | lit u => simp [C.setRow] at h
    | sl sz rows =>
      simp only [C.row, Option.map_eq_some_iff] at hr
      obtain ⟨r0, hr0, _⟩ := hr
      have hlt : i < rows.length := by
        rcases Nat.lt_or_ge i rows.length with h | h
        · exact h
        · simp [List.getElem?_eq_none h] at hr0
      simp only [C.setRow] at h
      cases ho : ownedAll r' with
      | none =>
        rw [ho] at h
        simp only [Option.some.injEq] at h
        subst h
        exact ⟨r', by simp [C.row, hlt], .inl rfl⟩
      | some ts =>
        rw [ho] at h
        simp only [Option.some.injEq] at h
        subst h
        exact ⟨ts.map C.ow, by simp [C.row, hlt], .inr ⟨ts, rfl, rfl⟩⟩
theorem ownedRows_get : ∀ {rs : List (List C)} {tss : List (List T)}, ownedRows rs = some tss → ∀ i : Nat, (tss[i]? = none ∧ rs[i]? = none) ∨ ∃ (r : List C) (ts : List T), rs[i]? = some r ∧ tss[i]? = some ts ∧ ownedAll r = some ts
  | [], tss, h, i => by simp only [ownedRows, Option.some.injEq] at h; subst h; simp
  | r :: rs, tss, h, i => by
    simp only [ownedRows] at h
    cases h1 : ownedAll r with
    | none => simp [h1] at h
    | some ts =>
      cases h2 : ownedRows rs with
      | none => simp [h1, h2] at h
      | some tss' =>
        simp only [h1, h2, Option.some.injEq] at h
        subst h
        cases i with
        | zero => exact .inr ⟨r, ts, rfl, rfl, h1⟩
        | succ i => simpa using ownedRows_get h2 i
theorem ownedAll_get : ∀ {cs : List C} {ts : List T}, ownedAll cs = some ts → ∀ i : Nat, (ts[i]? = none ∧ cs[i]? = none) ∨ ∃ (c : C) (t : T), cs[i]? = some c ∧ ts[i]? = some t ∧ C.owned c = some t
  | [], ts, h, i => by simp only [ownedAll, Option.some.injEq] at h; subst h; simp
  | c :: cs, ts, h, i => by
    simp only [ownedAll] at h
    cases h1 : c.owned with
    | none => simp [h1] at h
    | some t =>
      cases h2 : ownedAll cs with
      | none => simp [h1, h2] at h
      | some ts' =>
        simp only [h1, h2, Option.some.injEq] at h
        subst h
        cases i with
        | zero => exact .inr ⟨c, t, rfl, rfl, h1⟩
        | succ i => simpa using ownedAll_get h2 i
theorem owned_row {c : C} {t : T} (h : c.owned = some t) (i : Nat) : ((C.ow t).row i = none ∧ c.row i = none) ∨ ∃ r ts, c.row i = some r ∧ (C.ow t).row i = some (ts.map C.ow) ∧ ownedAll r = some ts ∧ (C.ow t).sz = c.sz := by
  cases c with
  | im b u =>
    cases u with
    | lit x => simp only [C.owned, Option.some.injEq] at h; subst h; exact .inl ⟨rfl, rfl⟩
    | sl sz rows => simp [C.owned] at h
  | hole => simp [C.owned] at h
  | ow t0 =>
    simp only [C.owned, Option.some.injEq] at h
    subst h
    cases t0 with
    | lit x => exact .inl ⟨rfl, rfl⟩
    | sl sz rows =>
      cases hr : rows[i]? with
      | none => exact .inl ⟨by simp [C.row, hr], by simp [C.row, hr]⟩
      | some r =>
        refine .inr ⟨r.map C.ow, r, by simp [C.row, hr], by simp [C.row, hr], ?_, rfl⟩
        clear hr
        induction r with
        | nil => rfl
        | cons a r ih => simp [ownedAll, C.owned, ih]
  | own sz rows =>
    simp only [C.owned, Option.map_eq_some_iff] at h
    obtain ⟨tss, h1, rfl⟩ := h
    rcases ownedRows_get h1 i with ⟨h2, h3⟩ | ⟨r, ts, h2, h3, h4⟩
    · exact .inl ⟨by simp [C.row, h2], by simp [C.row, h3]⟩
    · exact .inr ⟨r, ts, by simp [C.row, h2], by simp [C.row, h3], h4, rfl⟩
theorem stepAt_some {w : World} {x : C} {v : Value} {i g o : Nat} {r : List C} {rv : List Value} (h : stepAt w x v i = some (g, o, r, rv)) : x.row i = some r := by
  unfold stepAt at h
  cases hr : x.row i with
  | none => simp [hr] at h
  | some r0 =>
    rw [hr] at h
    generalize x.sz = z at h
    cases z with
    | none => simp at h
    | some sz =>
      cases v <;> try (simp at h; done)
      rename_i a _ _
      cases a with
      | none => simp at h
      | some a =>
        cases ho : w.heap[a.block]? with
        | none => simp [ho] at h
        | some ob =>
          cases ob <;> simp [ho] at h
          rw [h.2.2.1]
theorem step_owned {w : World} {x : C} {t : T} {v : Value} {i : Nat} {r : List C} {us : List T} (h4 : x.row i = some r) (h5 : (C.ow t).row i = some (us.map C.ow)) (h7 : (C.ow t).sz = x.sz) :
    stepAt w (C.ow t) v i = (stepAt w x v i).map (fun q => (q.1, q.2.1, us.map C.ow, q.2.2.2)) := by
  unfold stepAt
  rw [h5, h4, h7]
  generalize x.sz = z
  cases z with
  | none => rfl
  | some sz =>
    cases v <;> try rfl
    rename_i a _ _
    cases a with
    | none => rfl
    | some a =>
      simp only
      cases w.heap[a.block]? with
      | none => rfl
      | some ob => cases ob <;> rfl
theorem path_owned {w : World} : ∀ (p : List (Nat × Nat)) (cs : List C) (ts : List T) (vs : List Value), ownedAll cs = some ts → valsAt w (ts.map C.ow) vs p = valsAt w cs vs p ∧ addrAt w (ts.map C.ow) vs p = addrAt w cs vs p
  | [], _, _, _, _ => ⟨rfl, rfl⟩
  | (c, i) :: p, cs, ts, vs, h => by
    rw [valsAt, valsAt, addrAt, addrAt, List.getElem?_map]
    rcases ownedAll_get h c with ⟨h1, h2⟩ | ⟨x, t, h1, h2, h3⟩
    · rw [h1, h2]; exact ⟨rfl, rfl⟩
    · rw [h1, h2]
      simp only [Option.map_some]
      cases hv : vs[c]? with
      | none => exact ⟨rfl, rfl⟩
      | some v =>
        rcases owned_row h3 i with ⟨h4, h5⟩ | ⟨r, us, h4, h5, h6, h7⟩
        · have e1 : stepAt w (C.ow t) v i = none := by simp [stepAt, h4]
          have e2 : stepAt w x v i = none := by simp [stepAt, h5]
          simp only [e1, e2]
          exact ⟨trivial, trivial⟩
        · have e := step_owned (w := w) (v := v) h4 h5 h7
          cases hs : stepAt w x v i with
          | none =>
            rw [hs] at e
            simp only [e, hs, Option.map_none]
            exact ⟨trivial, trivial⟩
          | some q =>
            obtain ⟨g, o, r1, rv⟩ := q
            rw [hs] at e
            have e2 : r1 = r := by
              have := stepAt_some hs
              rw [h4] at this
              exact (Option.some.inj this).symm
            subst e2
            simp only [e, hs, Option.map_some]
            have ih := path_owned (w := w) p r1 us rv h6
            refine ⟨ih.1, ?_⟩
            cases p with
            | nil => rfl
            | cons q p => exact ih.2
end Go.Proofs.YtckojpaklblnpaaGreatDoor.Ev
/- A write into a row of an object: every path that does not lead through what is overwritten reads as it did. -/
set_option linter.unusedVariables false
set_option linter.unusedSimpArgs false
namespace Go.Proofs.YtckojpaklblnpaaGreatDoor.Ev
open Go Go.RowKit
def vCell (w : World) (x : C) (v : Value) (i : Nat) (p : List (Nat × Nat)) : Option (List Value) :=
  match stepAt w x v i with
  | some (_, _, r, rv) => valsAt w r rv p
  | none => none
def aCell (w : World) (x : C) (v : Value) (i : Nat) (p : List (Nat × Nat)) : Option (Nat × Nat) :=
  match stepAt w x v i with
  | some (g, o, r, rv) => match p with
    | [] => some (g, o)
    | q :: p => addrAt w r rv (q :: p)
  | none => none
theorem valsAt_cell {w : World} {cs : List C} {vs : List Value} {c i : Nat} {p : List (Nat × Nat)} : valsAt w cs vs ((c, i) :: p) = match cs[c]?, vs[c]? with | some x, some v => vCell w x v i p | _, _ => none := rfl
theorem addrAt_cell {w : World} {cs : List C} {vs : List Value} {c i : Nat} {p : List (Nat × Nat)} : addrAt w cs vs ((c, i) :: p) = match cs[c]?, vs[c]? with | some x, some v => aCell w x v i p | _, _ => none := by
  rw [addrAt]; rfl
theorem cell_keep {w w' : World} {Φ : Bool → Nat → Prop} {x : C} {v : Value} {B : List Nat} (h : IsC w Φ x v B) (hk : ∀ b ∈ B, w'.heap[b]? = w.heap[b]?) (i : Nat) (p : List (Nat × Nat)) : vCell w' x v i p = vCell w x v i p ∧ aCell w' x v i p = aCell w x v i p := by
  have hcs : IsCs w Φ [x] [v] B := by
    simp only [IsCs]
    exact ⟨v, [], B, [], rfl, by simp, h, rfl, rfl⟩
  have := path_keep (w' := w') ((0, i) :: p) [x] [v] B hcs hk
  rw [valsAt_cell, valsAt_cell, addrAt_cell, addrAt_cell] at this
  exact this
theorem row_keep {w w' : World} {Φ : Bool → Nat → Prop} {r r' : List C} {rv rv' : List Value} {B : List Nat} (h : IsCs w Φ r rv B) (hk : ∀ b ∈ B, w'.heap[b]? = w.heap[b]?) {c i : Nat} {p : List (Nat × Nat)} (hc : r'[c]? = r[c]?) (hv : rv'[c]? = rv[c]?) :
    valsAt w' r' rv' ((c, i) :: p) = valsAt w r rv ((c, i) :: p) ∧ addrAt w' r' rv' ((c, i) :: p) = addrAt w r rv ((c, i) :: p) := by
  rw [valsAt_cell, valsAt_cell, addrAt_cell, addrAt_cell, hc, hv]
  cases hx : r[c]? with
  | none => exact ⟨rfl, rfl⟩
  | some x =>
    cases hv2 : rv[c]? with
    | none => exact ⟨rfl, rfl⟩
    | some v =>
      obtain ⟨Bx, h1, h2⟩ := h.at_ hx hv2
      exact cell_keep h2 (fun b hb => hk b (h1 b hb)) i p
theorem setRange_get {row new : List C} {off c : Nat} (h : off + new.length ≤ row.length) (hc : ¬(off ≤ c ∧ c < off + new.length)) : (setRange row off new)[c]? = row[c]? := by
  unfold setRange
  rcases Nat.lt_or_ge c off with h1 | h1
  · rw [List.append_assoc, List.getElem?_append_left (by simp; omega), List.getElem?_take, if_pos h1]
  · have h2 : off + new.length ≤ c := by omega
    rw [List.getElem?_append_right (by simp; omega), List.getElem?_drop]
    congr 1
    simp
    omega
theorem setRange_length {row new : List C} {off : Nat} (h : off + new.length ≤ row.length) : (setRange row off new).length = row.length := by
  unfold setRange
  simp
  omega
theorem slice_ext {cur cur' : Array Value} {a n o m : Nat} (h : ∀ j, j < o ∨ m ≤ j → cur'[j]? = cur[j]?) (hd : a + n ≤ o ∨ m ≤ a) : (cur'.toList.drop a).take n = (cur.toList.drop a).take n := by
  apply List.ext_getElem?
  intro j
  rw [List.getElem?_take, List.getElem?_take]
  split
  · rw [List.getElem?_drop, List.getElem?_drop]
    simpa using h (a + j) (by omega)
  · rfl
theorem write_path {w w' : World} {Φ : Bool → Nat → Prop} {e : TypeId} {fz : Nat × Nat} {g : Nat} {cur cur' : Array Value} (hg : w.heap[g]? = some (.cells cur e fz)) (hg' : w'.heap[g]? = some (.cells cur' e fz)) (hsize : cur'.size = cur.size) {off : Nat} {new : List C} :
    ∀ (p : List (Nat × Nat)) (cs : List C) (vs : List Value) (B : List Nat) (row : List C) (o : Nat) (cs' : List C), IsCs w Φ cs vs B → B.Nodup → getRow cs p = some row → p ≠ [] → addrAt w cs vs p = some (g, o) →
      (∀ j, j < o + off ∨ o + off + new.length ≤ j → cur'[j]? = cur[j]?) → (∀ b ∈ B, b ≠ g → w'.heap[b]? = w.heap[b]?) → off + new.length ≤ row.length → setRow cs p (setRange row off new) = some cs' →
      (∀ q, through p off new.length q = false → addrAt w' cs' vs q = addrAt w cs vs q ∧ (q ≠ p → valsAt w' cs' vs q = valsAt w cs vs q)) ∧ valsAt w' cs' vs p = some ((cur'.toList.drop o).take row.length)
  | [], _, _, _, _, _, _, _, _, _, hp, _, _, _, _, _ => absurd rfl hp
  | (c, i) :: p, cs, vs, B, row, o, cs', h, hnd, hrow, _, haddr, hout, hkeep, hfit, hset => by
    obtain ⟨x, r, hx, hr, hrow'⟩ := getRow_cons hrow
    obtain ⟨Xc, Bx, Yc, v, rfl, hv, hxv, hother, _⟩ := IsCs.focus cs vs B c x h hx
    obtain ⟨g0, n, cap, cur0, e0, fz0, X1, B1, Y1, sz, rfl, hsz, hn, hin, hnc, hcap, hheap, hfz, hcur, rfl, hrl, hrc, hrows, _⟩ := hxv.row hr
    obtain ⟨r', x', hset', hx', rfl⟩ := setRow_cons hx hr hset
    have hstep : stepAt w x (.slice (some ⟨g0, 0, none⟩) n cap) i = some (g0, i * sz, r, (cur0.toList.drop (i * sz)).take sz) := by
      simp [stepAt, hr, hsz, hheap]
    obtain ⟨r2, hr2, hr2'⟩ := setRow_same hx' hr
    have hsz' : x'.sz = some sz := (setRow_sz hx').trans hsz
    have hclt : c < cs.length := by
      rcases Nat.lt_or_ge c cs.length with h | h
      · exact h
      · simp [List.getElem?_eq_none h] at hx
    have hcsc : (cs.set c x')[c]? = some x' := by simp [hclt]
    have hr2v : ∀ rv q, valsAt w' r2 rv q = valsAt w' r' rv q ∧ addrAt w' r2 rv q = addrAt w' r' rv q := by
      intro rv q
      rcases hr2' with rfl | ⟨ts, hts, rfl⟩
      · exact ⟨rfl, rfl⟩
      · exact path_owned q r' ts rv hts
    -- where g lies
    have hgin : (p = [] ∧ g = g0 ∧ o = i * sz) ∨ (p ≠ [] ∧ g ∈ B1 ∧ addrAt w r ((cur0.toList.drop (i * sz)).take sz) p = some (g, o)) := by
      rw [addrAt_cell, hx, hv] at haddr
      simp only [aCell, hstep] at haddr
      cases p with
      | nil =>
        simp only [Option.some.injEq, Prod.mk.injEq] at haddr
        exact .inl ⟨rfl, haddr.1.symm, haddr.2.symm⟩
      | cons q0 p =>
        simp only at haddr
        have hndr : B1.Nodup := by
          simp only [List.append_assoc, List.cons_append, List.nodup_append, List.nodup_cons] at hnd
          exact hnd.2.1.2.2.1.1
        obtain ⟨g9, o9, cur9, e9, fz9, X9, Br9, Y9, rv9, a1, _, rfl, a4, _⟩ := place (q0 :: p) r _ B1 row hrc hndr hrow' (by simp)
        rw [a1] at haddr
        simp only [Option.some.injEq, Prod.mk.injEq] at haddr
        obtain ⟨rfl, rfl⟩ := haddr
        exact .inr ⟨by simp, by simp [a4], a1⟩
    have hgB : g = g0 ∨ g ∈ B1 := by rcases hgin with h | h; exact .inl h.2.1; exact .inr h.2.1
    -- blocks beside
    have hside : ∀ b, (b ∈ Xc ++ Yc ∨ b ∈ X1 ++ Y1) → w'.heap[b]? = w.heap[b]? := by
      intro b hb
      refine hkeep b (by simp at hb ⊢; rcases hb with (hb | hb) | (hb | hb) <;> simp [hb]) ?_
      rintro rfl
      simp only [List.append_assoc, List.cons_append, List.nodup_append, List.nodup_cons, List.mem_append, List.mem_cons, ne_eq] at hnd hb
      obtain ⟨_, ⟨n1, ⟨_, ⟨n3, n4⟩⟩⟩, n2⟩ := hnd
      rcases hgB with h9 | h9
      · subst h9
        rcases hb with (hb | hb) | (hb | hb)
        · exact n2 _ hb _ (.inl rfl) rfl
        · exact n1 (.inr (.inr (.inr hb)))
        · exact n1 (.inl hb)
        · exact n1 (.inr (.inr (.inl hb)))
      · rcases hb with (hb | hb) | (hb | hb)
        · exact n2 _ hb _ (.inr (.inr (.inl h9))) rfl
        · exact n3.2.2 _ h9 _ (.inr hb) rfl
        · exact n4 _ hb _ (.inl h9) rfl
        · exact n3.2.2 _ h9 _ (.inl hb) rfl
    -- the block of this cell
    have hg0 : ∃ c0' , w'.heap[g0]? = some (.cells c0' e0 fz0) ∧ c0'.size = cur0.size ∧ (∀ j, j < i * sz ∨ i * sz + sz ≤ j → c0'[j]? = cur0[j]?) ∧ (p = [] → c0' = cur') ∧ (p ≠ [] → c0' = cur0) := by
      rcases hgin with ⟨hp, rfl, rfl⟩ | ⟨hp, hgm, _⟩
      · have e1 := hheap.symm.trans hg
        simp only [Option.some.injEq, Obj.cells.injEq] at e1
        obtain ⟨rfl, rfl, rfl⟩ := e1
        subst hp
        simp only [getRow, Option.some.injEq] at hrow'
        subst hrow'
        exact ⟨cur', hg', hsize, fun j hj => hout j (by omega), fun _ => rfl, fun h => absurd rfl h⟩
      · have hne : g0 ≠ g := by
          rintro rfl
          simp only [List.append_assoc, List.cons_append, List.nodup_append, List.nodup_cons, List.mem_append, List.mem_cons, ne_eq] at hnd
          exact hnd.2.1.1 (.inr (.inl hgm))
        exact ⟨cur0, (hkeep g0 (by simp) hne).trans hheap, rfl, fun _ _ => rfl, fun h => absurd h hp, fun _ => rfl⟩
    obtain ⟨c0', hc0, hcs0, hcout, hcn, hcc⟩ := hg0
    have hstep' : ∀ j r3, x'.row j = some r3 → stepAt w' x' (.slice (some ⟨g0, 0, none⟩) n cap) j = some (g0, j * sz, r3, (c0'.toList.drop (j * sz)).take sz) := by
      intro j r3 h3
      simp [stepAt, h3, hsz', hc0]
    have hstepj : ∀ j r3, x.row j = some r3 → stepAt w x (.slice (some ⟨g0, 0, none⟩) n cap) j = some (g0, j * sz, r3, (cur0.toList.drop (j * sz)).take sz) := by
      intro j r3 h3
      simp [stepAt, h3, hsz, hheap]
    have hndr : B1.Nodup := by
      simp only [List.append_assoc, List.cons_append, List.nodup_append, List.nodup_cons] at hnd
      exact hnd.2.1.2.2.1.1
    have ih : p ≠ [] → (∀ q, through p off new.length q = false → addrAt w' r' ((cur0.toList.drop (i * sz)).take sz) q = addrAt w r ((cur0.toList.drop (i * sz)).take sz) q ∧ (q ≠ p → valsAt w' r' ((cur0.toList.drop (i * sz)).take sz) q = valsAt w r ((cur0.toList.drop (i * sz)).take sz) q)) ∧ valsAt w' r' ((cur0.toList.drop (i * sz)).take sz) p = some ((cur'.toList.drop o).take row.length) := by
      intro hp
      rcases hgin with ⟨hp', _⟩ | ⟨_, _, ha⟩
      · exact absurd hp' hp
      · exact write_path hg hg' hsize p r _ B1 row o r' hrc hndr hrow' hp ha hout (fun b hb hne => hkeep b (by simp [hb]) hne) hfit hset'
    constructor
    · intro q hq
      cases q with
      | nil => exact ⟨rfl, fun _ => rfl⟩
      | cons q0 q =>
        obtain ⟨c2, i2⟩ := q0
        by_cases hc : c2 = c
        · subst hc
          by_cases hi : i2 = i
          · subst hi
            have hq' : through p off new.length q = false := by simpa [through] using hq
            rw [addrAt_cell, addrAt_cell, valsAt_cell, valsAt_cell, hcsc, hx, hv]
            simp only [aCell, vCell, hstep' _ _ hr2, hstep]
            cases hpe : p with
            | nil =>
              subst hpe
              simp only [getRow, Option.some.injEq] at hrow'
              subst hrow'
              simp only [setRow, Option.some.injEq] at hset'
              cases q with
              | nil => exact ⟨rfl, fun h => absurd rfl h⟩
              | cons q1 q =>
                obtain ⟨c3, i3⟩ := q1
                simp only [through, Bool.and_eq_false_imp, decide_eq_true_eq, decide_eq_false_iff_not] at hq'
                have hnr : ¬(off ≤ c3 ∧ c3 < off + new.length) := fun h => hq' h.1 h.2
                rw [(hr2v _ _).1]
                show addrAt w' r2 _ _ = addrAt w r _ _ ∧ _
                rw [(hr2v _ _).2]
                rcases hgin with ⟨_, rfl, rfl⟩ | ⟨h, _⟩
                · have hB1 : ∀ b ∈ B1, w'.heap[b]? = w.heap[b]? := by
                    intro b hb
                    refine hkeep b (by simp [hb]) ?_
                    rintro rfl
                    simp only [List.append_assoc, List.cons_append, List.nodup_append, List.nodup_cons, List.mem_append, List.mem_cons, ne_eq] at hnd
                    exact hnd.2.1.1 (.inr (.inl hb))
                  have := row_keep (r' := r') (rv' := (c0'.toList.drop (i2 * sz)).take sz) hrc hB1 (c := c3) (i := i3) (p := q) (by rw [← hset']; exact setRange_get hfit hnr) (by
                    rw [List.getElem?_take, List.getElem?_take]
                    split
                    · rw [List.getElem?_drop, List.getElem?_drop, hcn rfl]
                      have e1 := hheap.symm.trans hg
                      simp only [Option.some.injEq, Obj.cells.injEq] at e1
                      obtain ⟨rfl, _, _⟩ := e1
                      simpa using hout (i2 * sz + c3) (by omega)
                    · rfl)
                  exact ⟨this.2, fun _ => this.1⟩
                · exact absurd rfl h
            | cons p0 p1 =>
              have hp : p ≠ [] := by rw [hpe]; simp
              rw [← hpe]
              have ihq := (ih hp).1 q hq'
              rw [hcc hp, (hr2v _ _).1]
              refine ⟨?_, fun hne => ihq.2 (fun e => hne (by rw [e]))⟩
              cases q with
              | nil => rfl
              | cons q1 q =>
                simp only
                rw [(hr2v _ _).2]
                exact ihq.1
          · rw [addrAt_cell, addrAt_cell, valsAt_cell, valsAt_cell, hcsc, hx, hv]
            have hrow2 := setRow_row hx' hi
            simp only [aCell, vCell]
            cases h3 : x.row i2 with
            | none =>
              have e1 : stepAt w x (.slice (some ⟨g0, 0, none⟩) n cap) i2 = none := by simp [stepAt, h3]
              have e2 : stepAt w' x' (.slice (some ⟨g0, 0, none⟩) n cap) i2 = none := by simp [stepAt, hrow2, h3]
              simp only [e1, e2]
              exact ⟨trivial, fun _ => trivial⟩
            | some r3 =>
              rw [hstep' i2 r3 (hrow2.trans h3), hstepj i2 r3 h3]
              simp only
              obtain ⟨Bj, hBj, hrj⟩ := hrows i2 r3 hi h3
              have hd : i2 * sz + sz ≤ i * sz ∨ i * sz + sz ≤ i2 * sz := by
                rcases Nat.lt_or_gt_of_ne hi with h | h
                · left; rw [← Nat.succ_mul]; exact Nat.mul_le_mul_right _ h
                · right; rw [← Nat.succ_mul]; exact Nat.mul_le_mul_right _ h
              rw [slice_ext (cur := cur0) (cur' := c0') (a := i2 * sz) (n := sz) hcout hd]
              have := path_keep (w' := w') q r3 _ Bj hrj (fun b hb => hside b (.inr (hBj b hb)))
              refine ⟨?_, fun _ => this.1⟩
              cases q with
              | nil => rfl
              | cons q1 q => exact this.2
        · rw [addrAt_cell, addrAt_cell, valsAt_cell, valsAt_cell]
          have hcc2 : (cs.set c x')[c2]? = cs[c2]? := List.getElem?_set_ne (fun e => hc e.symm)
          rw [hcc2]
          cases hx2 : cs[c2]? with
          | none => exact ⟨rfl, fun _ => rfl⟩
          | some x2 =>
            cases hv2 : vs[c2]? with
            | none => exact ⟨rfl, fun _ => rfl⟩
            | some v2 =>
              obtain ⟨Bj, hBj, hxj⟩ := hother c2 x2 v2 hc hx2 hv2
              have := cell_keep hxj (w' := w') (fun b hb => hside b (.inl (hBj b hb))) i2 q
              exact ⟨this.2, fun _ => this.1⟩
    · rw [valsAt_cell, hcsc, hv]
      simp only [vCell, hstep' _ _ hr2]
      rw [(hr2v _ _).1]
      cases hpe : p with
      | nil =>
        subst hpe
        simp only [getRow, Option.some.injEq] at hrow'
        subst hrow'
        rcases hgin with ⟨_, rfl, rfl⟩ | ⟨h, _⟩
        · rw [valsAt, hcn rfl, hrl]
        · exact absurd rfl h
      | cons p0 p1 =>
        have hp : p ≠ [] := by rw [hpe]; simp
        rw [← hpe, hcc hp]
        exact (ih hp).2
end Go.Proofs.YtckojpaklblnpaaGreatDoor.Ev
/- A frame's state and the memory that it stands for. -/
set_option linter.unusedVariables false
set_option linter.unusedSimpArgs false
namespace Go.Proofs.YtckojpaklblnpaaGreatDoor.Ev
open Go Go.RowKit
def IsOb (w : World) (Φ : Bool → Nat → Prop) (ρ : Nat → List Value) : List (Nat × O) → List Nat → Prop
  | [], B => B = []
  | (k, o) :: r, B => ∃ B1 B2, B = B1 ++ B2 ∧ IsCs w Φ o.cells (ρ k) B1 ∧ IsOb w Φ ρ r B2
mutual
def SlotR (w : World) (Φ : Bool → Nat → Prop) (ob : List (Nat × O)) (ρ : Nat → List Value) : S → Value → Prop
  | .dead, _ => True
  | .undef, v => v = Go.undef
  | .yn, v => ∃ b, v = .bool b
  | .nils, v => v = .slice none 0 0
  | .lit x, v => v = x ∧ one x
  | .val b t, v => IsT w (Φ b) t v
  | .agg b ts, v => ∃ vs, v = .agg vs.toArray ∧ IsTs w (Φ b) ts vs
  | .vw k p off n ag, v => ∃ o vs, look ob k = some o ∧ valsAt w o.cells (ρ k) p = some vs ∧ off + n ≤ vs.length ∧ (if ag then v = .agg ((vs.drop off).take n).toArray else (vs.drop off).take n = [v])
  | .sub k p off sz lo hi, v => ∃ o vs a len cap, look ob k = some o ∧ valsAt w o.cells (ρ k) p = some vs ∧ off + 1 ≤ vs.length ∧ (vs.drop off).take 1 = [.slice a len cap] ∧ lo ≤ hi ∧ hi ≤ len ∧ len ≤ cap ∧
      ∃ a', (cap ≠ lo → a' = a.map (·.add (lo * sz))) ∧ v = .slice a' (hi - lo) (cap - lo)
  | .ptr k p off, v => ∃ o g a, look ob k = some o ∧ addrAt w o.cells (ρ k) p = some (g, a) ∧ v = .pointer (some ⟨g, a + off, none⟩)
  | .pt b ts, v => ∃ g o cur e fz, v = .pointer (some ⟨g, o, none⟩) ∧ Φ b g ∧ w.heap[g]? = some (.cells cur e fz) ∧ IsTs w (Φ b) ts ((cur.toList.drop o).take ts.length)
  | .fn g caps, v => ∃ vs, v = .func (.func g) #[] vs.toArray ∧ SlotRs w Φ ob ρ caps vs
  | .tup xs, v => ∃ vs, v = .tuple vs.toArray ∧ SlotRs w Φ ob ρ xs vs
def SlotRs (w : World) (Φ : Bool → Nat → Prop) (ob : List (Nat × O)) (ρ : Nat → List Value) : List S → List Value → Prop
  | [], vs => vs = []
  | s :: ss, vs => ∃ v vs', vs = v :: vs' ∧ SlotR w Φ ob ρ s v ∧ SlotRs w Φ ob ρ ss vs'
end
structure Carry (w w' : World) (Φ Φ' : Bool → Nat → Prop) (ob ob' : List (Nat × O)) (ρ ρ' : Nat → List Value) (f : S → S) (fs : List S → List S) : Prop where
  mono : ∀ x b, Φ x b → Φ' x b
  ro : ∀ x b, Φ x b → w'.heap[b]? = w.heap[b]?
  nil : fs [] = []
  cons : ∀ s r, fs (s :: r) = f s :: fs r
  fn : ∀ g c, f (.fn g c) = .fn g (fs c)
  tup : ∀ c, f (.tup c) = .tup (fs c)
  rest : ∀ s, (match s with | .vw .. | .sub .. | .ptr .. | .fn .. | .tup .. => False | _ => True) → f s = s
  vals : ∀ k p off n, (∀ ag, f (.vw k p off n ag) = .dead) ∨ ∃ k', (∀ ag, f (.vw k p off n ag) = .vw k' p off n ag) ∧
    ∀ o vs, look ob k = some o → valsAt w o.cells (ρ k) p = some vs → off + n ≤ vs.length → ∃ o' vs', look ob' k' = some o' ∧ valsAt w' o'.cells (ρ' k') p = some vs' ∧ off + n ≤ vs'.length ∧ (vs'.drop off).take n = (vs.drop off).take n
  sub : ∀ k p off sz lo hi, f (.sub k p off sz lo hi) = .dead ∨ ∃ k', f (.sub k p off sz lo hi) = .sub k' p off sz lo hi ∧
    ∀ o vs, look ob k = some o → valsAt w o.cells (ρ k) p = some vs → off + 1 ≤ vs.length → ∃ o' vs', look ob' k' = some o' ∧ valsAt w' o'.cells (ρ' k') p = some vs' ∧ off + 1 ≤ vs'.length ∧ (vs'.drop off).take 1 = (vs.drop off).take 1
  ptr : ∀ k p off, f (.ptr k p off) = .dead ∨ ∃ k', f (.ptr k p off) = .ptr k' p off ∧
    ∀ o g a, look ob k = some o → addrAt w o.cells (ρ k) p = some (g, a) → ∃ o', look ob' k' = some o' ∧ addrAt w' o'.cells (ρ' k') p = some (g, a)
mutual
theorem Carry.slot {w w' : World} {Φ Φ' : Bool → Nat → Prop} {ob ob' : List (Nat × O)} {ρ ρ' : Nat → List Value} {f : S → S} {fs : List S → List S} (C : Carry w w' Φ Φ' ob ob' ρ ρ' f fs) : ∀ (s : S) (v : Value), SlotR w Φ ob ρ s v → SlotR w' Φ' ob' ρ' (f s) v
  | .dead, v, h => by rw [C.rest _ trivial]; simp only [SlotR]
  | .undef, v, h => by rw [C.rest _ trivial]; simpa only [SlotR] using h
  | .yn, v, h => by rw [C.rest _ trivial]; simpa only [SlotR] using h
  | .nils, v, h => by rw [C.rest _ trivial]; simpa only [SlotR] using h
  | .lit x, v, h => by rw [C.rest _ trivial]; simpa only [SlotR] using h
  | .val b t, v, h => by
    rw [C.rest _ trivial]
    simp only [SlotR] at h ⊢
    exact IsT.mono (C.mono b) (C.ro b) t v h
  | .agg b ts, v, h => by
    rw [C.rest _ trivial]
    simp only [SlotR] at h ⊢
    obtain ⟨vs, h1, h2⟩ := h
    exact ⟨vs, h1, IsTs.mono (C.mono b) (C.ro b) ts vs h2⟩
  | .pt b ts, v, h => by
    rw [C.rest _ trivial]
    simp only [SlotR] at h ⊢
    obtain ⟨g, o, cur, e, fz, h1, h2, h3, h4⟩ := h
    exact ⟨g, o, cur, e, fz, h1, C.mono b g h2, (C.ro b g h2).trans h3, IsTs.mono (C.mono b) (C.ro b) ts _ h4⟩
  | .vw k p off n ag, v, h => by
    rcases C.vals k p off n with hd | ⟨k', hk, hv⟩
    · rw [hd ag]; simp only [SlotR]
    · rw [hk ag]
      simp only [SlotR] at h ⊢
      obtain ⟨o, vs, h1, h2, h3, h4⟩ := h
      obtain ⟨o', vs', e1, e2, e3, e4⟩ := hv o vs h1 h2 h3
      exact ⟨o', vs', e1, e2, e3, by rw [e4]; exact h4⟩
  | .sub k p off sz lo hi, v, h => by
    rcases C.sub k p off sz lo hi with hd | ⟨k', hk, hv⟩
    · rw [hd]; simp only [SlotR]
    · rw [hk]
      simp only [SlotR] at h ⊢
      obtain ⟨o, vs, a, len, cap, h1, h2, h3, h4, h5, h6, h7⟩ := h
      obtain ⟨o', vs', e1, e2, e3, e4⟩ := hv o vs h1 h2 h3
      exact ⟨o', vs', a, len, cap, e1, e2, e3, by rw [e4]; exact h4, h5, h6, h7⟩
  | .ptr k p off, v, h => by
    rcases C.ptr k p off with hd | ⟨k', hk, hv⟩
    · rw [hd]; simp only [SlotR]
    · rw [hk]
      simp only [SlotR] at h ⊢
      obtain ⟨o, g, a, h1, h2, h3⟩ := h
      obtain ⟨o', e1, e2⟩ := hv o g a h1 h2
      exact ⟨o', g, a, e1, e2, h3⟩
  | .fn g caps, v, h => by
    rw [C.fn]
    simp only [SlotR] at h ⊢
    obtain ⟨vs, h1, h2⟩ := h
    exact ⟨vs, h1, C.slots caps vs h2⟩
  | .tup xs, v, h => by
    rw [C.tup]
    simp only [SlotR] at h ⊢
    obtain ⟨vs, h1, h2⟩ := h
    exact ⟨vs, h1, C.slots xs vs h2⟩
theorem Carry.slots {w w' : World} {Φ Φ' : Bool → Nat → Prop} {ob ob' : List (Nat × O)} {ρ ρ' : Nat → List Value} {f : S → S} {fs : List S → List S} (C : Carry w w' Φ Φ' ob ob' ρ ρ' f fs) : ∀ (ss : List S) (vs : List Value), SlotRs w Φ ob ρ ss vs → SlotRs w' Φ' ob' ρ' (fs ss) vs
  | [], vs, h => by rw [C.nil]; simpa only [SlotRs] using h
  | s :: ss, vs, h => by
    rw [C.cons]
    simp only [SlotRs] at h ⊢
    obtain ⟨v, vs', h1, h2, h3⟩ := h
    exact ⟨v, vs', h1, C.slot s v h2, C.slots ss vs' h3⟩
end
def Pin (w : World) (Φ : Bool → Nat → Prop) : Prop := ∀ g Q, pinAt g = some Q → Φ false g ∧ ∃ cs ty fz, w.heap[g]? = some (.cells cs ty fz) ∧ Q cs.toList
def Subs (w : World) (Φ : Bool → Nat → Prop) : Prop := (∀ b, Φ false b → Φ true b) ∧ Pin w Φ
theorem Pin.next {w w' : World} {Φ Φ' : Bool → Nat → Prop} (h : Pin w Φ) (hm : ∀ b, Φ false b → Φ' false b) (hb : ∀ b, Φ false b → w'.heap[b]? = w.heap[b]?) : Pin w' Φ' := by
  intro g Q hg
  obtain ⟨h1, cs, ty, fz, h2, h3⟩ := h g Q hg
  exact ⟨hm g h1, cs, ty, fz, (hb g h1).trans h2, h3⟩
structure Rel (w : World) (Φ : Bool → Nat → Prop) (σ : F) (tm : List Value) (ρ : Nat → List Value) (B : List Nat) : Prop where
  obs : IsOb w Φ ρ σ.ob B
  nd : B.Nodup
  keys : (σ.ob.map (·.1)).Nodup
  disj : ∀ b ∈ B, ∀ x, ¬Φ x b
  lt : ∀ b ∈ B, b < w.heap.size
  ltΦ : ∀ x b, Φ x b → b < w.heap.size
  sub : Subs w Φ
  slots : SlotRs w Φ σ.ob ρ σ.sl tm
theorem SlotRs.length {w : World} {Φ : Bool → Nat → Prop} {ob : List (Nat × O)} {ρ : Nat → List Value} : ∀ {ss : List S} {vs : List Value}, SlotRs w Φ ob ρ ss vs → vs.length = ss.length
  | [], _, h => by simp only [SlotRs] at h; simp [h]
  | s :: ss, _, h => by
    simp only [SlotRs] at h
    obtain ⟨v, vs', rfl, _, h3⟩ := h
    simp [h3.length]
theorem SlotRs.get {w : World} {Φ : Bool → Nat → Prop} {ob : List (Nat × O)} {ρ : Nat → List Value} : ∀ {ss : List S} {vs : List Value}, SlotRs w Φ ob ρ ss vs → ∀ i, SlotR w Φ ob ρ (ss.getD i .dead) (vs.getD i Go.undef)
  | [], _, h, i => by simp only [List.getD_nil, SlotR]
  | s :: ss, _, h, 0 => by
    simp only [SlotRs] at h
    obtain ⟨v, vs', rfl, h2, _⟩ := h
    simpa using h2
  | s :: ss, _, h, i + 1 => by
    simp only [SlotRs] at h
    obtain ⟨v, vs', rfl, _, h3⟩ := h
    simpa using h3.get i
theorem SlotRs.set {w : World} {Φ : Bool → Nat → Prop} {ob : List (Nat × O)} {ρ : Nat → List Value} : ∀ {ss : List S} {vs : List Value}, SlotRs w Φ ob ρ ss vs → ∀ (i : Nat) (s : S) (v : Value), SlotR w Φ ob ρ s v → SlotRs w Φ ob ρ (ss.set i s) (vs.set i v)
  | [], _, h, i, s, v, _ => by simp only [SlotRs] at h; subst h; simp [SlotRs]
  | s0 :: ss, _, h, 0, s, v, hs => by
    simp only [SlotRs] at h
    obtain ⟨v0, vs', rfl, h2, h3⟩ := h
    simp only [List.set_cons_zero, SlotRs]
    exact ⟨v, vs', rfl, hs, h3⟩
  | s0 :: ss, _, h, i + 1, s, v, hs => by
    simp only [SlotRs] at h
    obtain ⟨v0, vs', rfl, h2, h3⟩ := h
    simp only [List.set_cons_succ, SlotRs]
    exact ⟨v0, vs'.set i v, rfl, h2, h3.set i s v hs⟩
end Go.Proofs.YtckojpaklblnpaaGreatDoor.Ev
/- The table of objects: looked up, put, dropped; slots carried over each of these. -/
set_option linter.unusedVariables false
set_option linter.unusedSimpArgs false
namespace Go.Proofs.YtckojpaklblnpaaGreatDoor.Ev
open Go Go.RowKit
theorem look_mem {ob : List (Nat × O)} {k : Nat} {o : O} (h : look ob k = some o) : k ∈ ob.map (·.1) := by
  induction ob with
  | nil => simp [look] at h
  | cons x r ih =>
    obtain ⟨j, y⟩ := x
    simp only [look] at h
    split at h
    · rename_i e; simp [e]
    · simp only [List.map_cons, List.mem_cons]; exact .inr (ih h)
theorem look_put {ob : List (Nat × O)} {k j : Nat} {o : O} : look (put_ ob k o) j = if j = k then (look ob k).map (fun _ => o) else look ob j := by
  induction ob with
  | nil => simp [look, put_]
  | cons x r ih =>
    obtain ⟨i, y⟩ := x
    simp only [put_]
    by_cases h : i = k
    · subst h
      simp only [if_true, look]
      by_cases hj : i = j
      · subst hj; simp
      · rw [if_neg hj, if_neg (fun e => hj e.symm), if_neg hj]
    · rw [if_neg h]
      simp only [look]
      by_cases hj : i = j
      · subst hj
        rw [if_pos rfl, if_neg h, if_pos rfl]
      · rw [if_neg hj, ih, if_neg h, if_neg hj]
theorem look_drop {ob : List (Nat × O)} {k j : Nat} (hk : (ob.map (·.1)).Nodup) : look (drop_ ob k) j = if j = k then none else look ob j := by
  induction ob with
  | nil => simp [look, drop_]
  | cons x r ih =>
    obtain ⟨i, y⟩ := x
    simp only [List.map_cons, List.nodup_cons] at hk
    simp only [drop_]
    by_cases h : i = k
    · subst h
      simp only [if_true, look]
      by_cases hj : j = i
      · subst hj
        rw [if_pos rfl]
        cases hl : look r j with
        | none => rfl
        | some o => exact absurd (look_mem hl) hk.1
      · rw [if_neg hj, if_neg (fun e => hj e.symm)]
    · rw [if_neg h]
      simp only [look]
      by_cases hj : i = j
      · subst hj
        rw [if_pos rfl, if_neg h, if_pos rfl]
      · rw [if_neg hj, ih hk.2, if_neg hj]
theorem put_keys (ob : List (Nat × O)) (k : Nat) (o : O) : (put_ ob k o).map (·.1) = ob.map (·.1) := by
  induction ob with
  | nil => rfl
  | cons x r ih =>
    obtain ⟨i, y⟩ := x
    simp only [put_]
    split
    · rename_i h; simp [h]
    · simp [ih]
theorem drop_sub (ob : List (Nat × O)) (k : Nat) : ((drop_ ob k).map (·.1)).Sublist (ob.map (·.1)) := by
  induction ob with
  | nil => exact List.Sublist.refl _
  | cons x r ih =>
    obtain ⟨i, y⟩ := x
    simp only [drop_]
    split
    · exact List.sublist_cons_self _ _
    · simpa using ih
theorem drop_not {ob : List (Nat × O)} {k : Nat} (hk : (ob.map (·.1)).Nodup) : k ∉ (drop_ ob k).map (·.1) := by
  induction ob with
  | nil => simp [drop_]
  | cons x r ih =>
    obtain ⟨i, y⟩ := x
    simp only [List.map_cons, List.nodup_cons] at hk
    simp only [drop_]
    split
    · rename_i h; subst h; exact hk.1
    · rename_i h
      simp only [List.map_cons, List.mem_cons, not_or]
      exact ⟨fun e => h e.symm, ih hk.2⟩
theorem IsOb.keep {w w' : World} {Φ Φ' : Bool → Nat → Prop} {ρ ρ' : Nat → List Value} : ∀ {ob : List (Nat × O)} {B : List Nat}, IsOb w Φ ρ ob B → Keeps w w' Φ Φ' B → (∀ k ∈ ob.map (·.1), ρ' k = ρ k) → IsOb w' Φ' ρ' ob B
  | [], _, h, _, _ => h
  | (k, o) :: r, _, h, hk, hρ => by
    obtain ⟨B1, B2, rfl, h2, h3⟩ := h
    refine ⟨B1, B2, rfl, ?_, h3.keep (hk.sub (by intro b hb; simp [hb])) (fun j hj => hρ j (by simp at hj ⊢; exact .inr hj))⟩
    rw [hρ k (by simp)]
    exact h2.keep (hk.sub (by intro b hb; simp [hb]))
theorem IsOb.focus {w : World} {Φ : Bool → Nat → Prop} {ρ : Nat → List Value} : ∀ {ob : List (Nat × O)} {B : List Nat} {k : Nat} {o : O}, IsOb w Φ ρ ob B → (ob.map (·.1)).Nodup → look ob k = some o →
    ∃ X Bk Y, B = X ++ (Bk ++ Y) ∧ IsCs w Φ o.cells (ρ k) Bk ∧ (∀ j oj, j ≠ k → look ob j = some oj → ∃ Bj, (∀ b ∈ Bj, b ∈ X ++ Y) ∧ IsCs w Φ oj.cells (ρ j) Bj) ∧ IsOb w Φ ρ (drop_ ob k) (X ++ Y) ∧
      ∀ (w' : World) (Φ' : Bool → Nat → Prop) (o' : O) (Bk' : List Nat), Keeps w w' Φ Φ' (X ++ Y) → IsCs w' Φ' o'.cells (ρ k) Bk' → IsOb w' Φ' ρ (put_ ob k o') (X ++ (Bk' ++ Y))
  | [], _, _, _, _, _, h => by simp [look] at h
  | (i, y) :: r, B, k, o, h, hk, hl => by
    obtain ⟨B1, B2, rfl, h2, h3⟩ := h
    simp only [List.map_cons, List.nodup_cons] at hk
    simp only [look] at hl
    by_cases hik : i = k
    · subst hik
      rw [if_pos rfl] at hl
      cases hl
      refine ⟨[], B1, B2, rfl, h2, ?_, ?_, ?_⟩
      · intro j oj hj hlj
        simp only [look] at hlj
        rw [if_neg (fun e => hj e.symm)] at hlj
        obtain ⟨X, Bk, Y, rfl, e2, _⟩ := IsOb.focus h3 hk.2 hlj
        exact ⟨Bk, fun b hb => by simp [hb], e2⟩
      · simpa [drop_] using h3
      · intro w' Φ' o' Bk' hkp hc
        simp only [List.nil_append] at hkp ⊢
        simp only [put_, if_true]
        exact ⟨Bk', B2, rfl, hc, h3.keep hkp (fun _ _ => rfl)⟩
    · rw [if_neg hik] at hl
      obtain ⟨X, Bk, Y, rfl, e2, e3, e4, e5⟩ := IsOb.focus h3 hk.2 hl
      refine ⟨B1 ++ X, Bk, Y, by simp [List.append_assoc], e2, ?_, ?_, ?_⟩
      · intro j oj hj hlj
        simp only [look] at hlj
        by_cases hij : i = j
        · subst hij
          rw [if_pos rfl] at hlj
          cases hlj
          exact ⟨B1, fun b hb => by simp [hb], h2⟩
        · rw [if_neg hij] at hlj
          obtain ⟨Bj, f1, f2⟩ := e3 j oj hj hlj
          exact ⟨Bj, fun b hb => by have := f1 b hb; simp at this ⊢; rcases this with h | h <;> simp [h], f2⟩
      · simp only [drop_]
        rw [if_neg hik]
        exact ⟨B1, X ++ Y, by simp [List.append_assoc], h2, e4⟩
      · intro w' Φ' o' Bk' hkp hc
        simp only [put_]
        rw [if_neg hik]
        exact ⟨B1, X ++ (Bk' ++ Y), by simp [List.append_assoc], h2.keep (hkp.sub (by intro b hb; simp [hb])), e5 w' Φ' o' Bk' (hkp.sub (by intro b hb; simp at hb ⊢; rcases hb with h | h <;> simp [h])) hc⟩
theorem drop_none {ob : List (Nat × O)} {k : Nat} (h : look ob k = none) : drop_ ob k = ob := by
  induction ob with
  | nil => rfl
  | cons x r ih =>
    obtain ⟨i, y⟩ := x
    simp only [look] at h
    split at h
    · cases h
    · rename_i hik
      simp only [drop_]
      rw [if_neg hik, ih h]
theorem IsOb.drop {w : World} {Φ : Bool → Nat → Prop} {ρ : Nat → List Value} {ob : List (Nat × O)} {B : List Nat} (h : IsOb w Φ ρ ob B) (hk : (ob.map (·.1)).Nodup) (k : Nat) : ∃ B', IsOb w Φ ρ (drop_ ob k) B' ∧ B'.Sublist B := by
  cases hl : look ob k with
  | none => rw [drop_none hl]; exact ⟨B, h, List.Sublist.refl _⟩
  | some o =>
    obtain ⟨X, Bk, Y, rfl, _, _, e4, _⟩ := IsOb.focus h hk hl
    exact ⟨X ++ Y, e4, List.Sublist.append (List.Sublist.refl _) (List.sublist_append_right _ _)⟩
/-! ### handles carried over -/
theorem keep_vals {w w' : World} {Φ : Bool → Nat → Prop} {cs : List C} {vs : List Value} {B : List Nat} (h : IsCs w Φ cs vs B) (hk : ∀ b ∈ B, w'.heap[b]? = w.heap[b]?) (p : List (Nat × Nat)) : valsAt w' cs vs p = valsAt w cs vs p ∧ addrAt w' cs vs p = addrAt w cs vs p := path_keep p cs vs B h hk
theorem look_is {w : World} {Φ : Bool → Nat → Prop} {ρ : Nat → List Value} {ob : List (Nat × O)} {B : List Nat} (h : IsOb w Φ ρ ob B) (hk : (ob.map (·.1)).Nodup) {k : Nat} {o : O} (hl : look ob k = some o) : ∃ Bk, (∀ b ∈ Bk, b ∈ B) ∧ IsCs w Φ o.cells (ρ k) Bk := by
  obtain ⟨X, Bk, Y, rfl, e2, _⟩ := IsOb.focus h hk hl
  exact ⟨Bk, fun b hb => by simp [hb], e2⟩
theorem carry_same {w w' : World} {Φ Φ' : Bool → Nat → Prop} {ρ ρ' : Nat → List Value} {ob ob' : List (Nat × O)} {B : List Nat} (h : IsOb w Φ ρ ob B) (hk : (ob.map (·.1)).Nodup) (hkp : Keeps w w' Φ Φ' B) (hl : ∀ k o, look ob k = some o → look ob' k = some o ∧ ρ' k = ρ k) : Carry w w' Φ Φ' ob ob' ρ ρ' id id where
  mono := hkp.mono
  ro := hkp.ro
  nil := rfl
  cons _ _ := rfl
  fn _ _ := rfl
  tup _ := rfl
  rest _ _ := rfl
  vals k p off n := .inr ⟨k, fun _ => rfl, fun o vs h1 h2 h3 => by
    obtain ⟨Bk, hB, hc⟩ := look_is h hk h1
    obtain ⟨e1, e2⟩ := hl k o h1
    exact ⟨o, vs, e1, by rw [e2, (keep_vals hc (fun b hb => hkp.own b (hB b hb)) p).1]; exact h2, h3, rfl⟩⟩
  sub k p off sz lo hi := .inr ⟨k, rfl, fun o vs h1 h2 h3 => by
    obtain ⟨Bk, hB, hc⟩ := look_is h hk h1
    obtain ⟨e1, e2⟩ := hl k o h1
    exact ⟨o, vs, e1, by rw [e2, (keep_vals hc (fun b hb => hkp.own b (hB b hb)) p).1]; exact h2, h3, rfl⟩⟩
  ptr k p off := .inr ⟨k, rfl, fun o g a h1 h2 => by
    obtain ⟨Bk, hB, hc⟩ := look_is h hk h1
    obtain ⟨e1, e2⟩ := hl k o h1
    exact ⟨o, e1, by rw [e2, (keep_vals hc (fun b hb => hkp.own b (hB b hb)) p).2]; exact h2⟩⟩
theorem carry_kill {w w' : World} {Φ Φ' : Bool → Nat → Prop} {ρ ρ' : Nat → List Value} {ob ob' : List (Nat × O)} {B : List Nat} (k0 : Nat) (h : IsOb w Φ ρ ob B) (hk : (ob.map (·.1)).Nodup) (mono : ∀ x b, Φ x b → Φ' x b) (ro : ∀ x b, Φ x b → w'.heap[b]? = w.heap[b]?)
    (hl : ∀ k o, k ≠ k0 → look ob k = some o → look ob' k = some o ∧ ρ' k = ρ k ∧ ∃ Bk, (∀ b ∈ Bk, w'.heap[b]? = w.heap[b]?) ∧ IsCs w Φ o.cells (ρ k) Bk) : Carry w w' Φ Φ' ob ob' ρ ρ' (killAll k0) (killAlls k0) where
  mono := mono
  ro := ro
  nil := rfl
  cons _ _ := rfl
  fn _ _ := rfl
  tup _ := rfl
  rest s hs := by cases s <;> first | rfl | exact hs.elim
  vals k p off n := by
    by_cases hkk : k = k0
    · exact .inl fun ag => by simp [killAll, hkk]
    · refine .inr ⟨k, fun ag => by simp [killAll, hkk], fun o vs h1 h2 h3 => ?_⟩
      obtain ⟨e1, e2, Bk, hB, hc⟩ := hl k o hkk h1
      exact ⟨o, vs, e1, by rw [e2, (keep_vals hc hB p).1]; exact h2, h3, rfl⟩
  sub k p off sz lo hi := by
    by_cases hkk : k = k0
    · exact .inl (by simp [killAll, hkk])
    · refine .inr ⟨k, by simp [killAll, hkk], fun o vs h1 h2 h3 => ?_⟩
      obtain ⟨e1, e2, Bk, hB, hc⟩ := hl k o hkk h1
      exact ⟨o, vs, e1, by rw [e2, (keep_vals hc hB p).1]; exact h2, h3, rfl⟩
  ptr k p off := by
    by_cases hkk : k = k0
    · exact .inl (by simp [killAll, hkk])
    · refine .inr ⟨k, by simp [killAll, hkk], fun o g a h1 h2 => ?_⟩
      obtain ⟨e1, e2, Bk, hB, hc⟩ := hl k o hkk h1
      exact ⟨o, e1, by rw [e2, (keep_vals hc hB p).2]; exact h2⟩
theorem range_same {vs vs' : List Value} {a n lo hi : Nat} (hlen : vs'.length = vs.length) (h : ∀ j, j < lo ∨ hi ≤ j → vs'[j]? = vs[j]?) (hd : a + n ≤ lo ∨ hi ≤ a) : (vs'.drop a).take n = (vs.drop a).take n := by
  apply List.ext_getElem?
  intro j
  rw [List.getElem?_take, List.getElem?_take]
  split
  · rw [List.getElem?_drop, List.getElem?_drop]
    exact h (a + j) (by omega)
  · rfl
theorem carry_write {w w' : World} {Φ Φ' : Bool → Nat → Prop} {ρ : Nat → List Value} {ob : List (Nat × O)} {B : List Nat} {k0 : Nat} {o0 o1 : O} {p0 : List (Nat × Nat)} {off0 : Nat} {new : List C} {row : List C} {e : TypeId} {fz : Nat × Nat} {g a : Nat} {cur cur' : Array Value}
    (h : IsOb w Φ ρ ob B) (hk : (ob.map (·.1)).Nodup) (hnd : B.Nodup) (mono : ∀ x b, Φ x b → Φ' x b) (ro : ∀ x b, Φ x b → w'.heap[b]? = w.heap[b]?) (own : ∀ b ∈ B, b ≠ g → w'.heap[b]? = w.heap[b]?)
    (hl : look ob k0 = some o0) (hrow : getRow o0.cells p0 = some row) (hp : p0 ≠ []) (ha : addrAt w o0.cells (ρ k0) p0 = some (g, a)) (hg : w.heap[g]? = some (.cells cur e fz)) (hg' : w'.heap[g]? = some (.cells cur' e fz)) (hsize : cur'.size = cur.size)
    (hout : ∀ j, j < a + off0 ∨ a + off0 + new.length ≤ j → cur'[j]? = cur[j]?) (hfit : off0 + new.length ≤ row.length) (hset : setRow o0.cells p0 (setRange row off0 new) = some o1.cells) :
    Carry w w' Φ Φ' ob (put_ ob k0 o1) ρ ρ (killAt k0 p0 off0 new.length) (killAts k0 p0 off0 new.length) := by
  obtain ⟨X, Bk, Y, rfl, e2, e3, e4, e5⟩ := IsOb.focus h hk hl
  have hndk : Bk.Nodup := by simp only [List.nodup_append] at hnd; exact hnd.2.1.1
  obtain ⟨g9, a9, cur9, e9, fz9, X9, Br9, Y9, rv9, f1, f2, f3, f4, f5, f6, f7, f8, f9, _⟩ := place p0 o0.cells (ρ k0) Bk row e2 hndk hrow hp
  rw [f1] at ha
  simp only [Option.some.injEq, Prod.mk.injEq] at ha
  obtain ⟨rfl, rfl⟩ := ha
  rw [f5] at hg
  simp only [Option.some.injEq, Obj.cells.injEq] at hg
  obtain ⟨rfl, rfl, rfl⟩ := hg
  have hgk : g9 ∈ Bk := by rw [f3]; simp [f4]
  have hw := write_path f5 hg' hsize p0 o0.cells (ρ k0) Bk row a9 o1.cells e2 hndk hrow hp f1 hout (fun b hb hne => own b (by simp [hb]) hne) hfit hset
  have hother : ∀ k o, k ≠ k0 → look ob k = some o → look (put_ ob k0 o1) k = some o ∧ ∃ Bj, (∀ b ∈ Bj, w'.heap[b]? = w.heap[b]?) ∧ IsCs w Φ o.cells (ρ k) Bj := by
    intro k o hkk h1
    obtain ⟨Bj, hB, hc⟩ := e3 k o hkk h1
    refine ⟨by rw [look_put, if_neg hkk]; exact h1, Bj, fun b hb => own b ?_ ?_, hc⟩
    · have := hB b hb; simp at this ⊢; rcases this with h | h <;> simp [h]
    · rintro rfl
      have := hB b hb
      simp only [List.nodup_append, List.mem_append, ne_eq] at hnd this
      rcases this with h | h
      · exact hnd.2.2 b h b (.inl hgk) rfl
      · exact hnd.2.1.2.2 b hgk b h rfl
  have hself : look (put_ ob k0 o1) k0 = some o1 := by rw [look_put, if_pos rfl, hl]; rfl
  have hrl : ∀ vs, valsAt w o0.cells (ρ k0) p0 = some vs → vs = (cur9.toList.drop a9).take row.length := by
    intro vs hv
    rw [f2] at hv
    cases hv
    exact f8
  have main : ∀ k p off n, (k = k0 → p = p0 → ¬(off0 < off + n ∧ off < off0 + new.length)) → (k = k0 → through p0 off0 new.length p = false) → ∀ o vs, look ob k = some o → valsAt w o.cells (ρ k) p = some vs → off + n ≤ vs.length →
      ∃ o' vs', look (put_ ob k0 o1) k = some o' ∧ valsAt w' o'.cells (ρ k) p = some vs' ∧ off + n ≤ vs'.length ∧ (vs'.drop off).take n = (vs.drop off).take n := by
    intro k p off n hov hth o vs h1 h2 h3
    by_cases hkk : k = k0
    · subst hkk
      rw [hl] at h1
      cases h1
      by_cases hpp : p = p0
      · subst hpp
        have hvs := hrl vs h2
        refine ⟨o1, _, hself, hw.2, ?_, ?_⟩
        · rw [hvs] at h3
          simp at h3 ⊢
          omega
        · subst hvs
          have hd := hov rfl rfl
          refine range_same (lo := off0) (hi := off0 + new.length) (by simp [hsize]) ?_ (by omega)
          intro j hj
          rw [List.getElem?_take, List.getElem?_take]
          split
          · rw [List.getElem?_drop, List.getElem?_drop]
            simpa using hout (a9 + j) (by omega)
          · rfl
      · have := (hw.1 p (hth rfl)).2 hpp
        exact ⟨o1, vs, hself, by rw [this]; exact h2, h3, rfl⟩
    · obtain ⟨e1, Bj, hB, hc⟩ := hother k o hkk h1
      exact ⟨o, vs, e1, by rw [(keep_vals hc hB p).1]; exact h2, h3, rfl⟩
  refine { mono := mono, ro := ro, nil := rfl, cons := fun _ _ => rfl, fn := fun _ _ => rfl, tup := fun _ => rfl, rest := fun s hs => by cases s <;> first | rfl | exact hs.elim, vals := ?_, sub := ?_, ptr := ?_ }
  · intro k p off n
    by_cases hd : (k = k0 ∧ (p = p0 ∧ off0 < off + n ∧ off < off0 + new.length ∨ through p0 off0 new.length p = true))
    · exact .inl fun ag => by
        simp only [killAt, Bool.or_eq_true, Bool.and_eq_true, beq_iff_eq, decide_eq_true_eq]
        rw [if_pos]
        exact ⟨hd.1, by rcases hd.2 with h | h; exact .inl ⟨h.1, h.2.1, h.2.2⟩; exact .inr h⟩
    · refine .inr ⟨k, fun ag => ?_, main k p off n (fun a b c => hd ⟨a, .inl ⟨b, c⟩⟩) (fun a => by
        cases hh : through p0 off0 new.length p with
        | true => exact absurd ⟨a, .inr hh⟩ hd
        | false => rfl)⟩
      simp only [killAt, Bool.or_eq_true, Bool.and_eq_true, beq_iff_eq, decide_eq_true_eq]
      rw [if_neg]
      rintro ⟨a, b⟩
      exact hd ⟨a, by rcases b with h | h; exact .inl ⟨h.1, h.2.1, h.2.2⟩; exact .inr h⟩
  · intro k p off sz lo hi
    by_cases hd : (k = k0 ∧ (p = p0 ∧ off0 < off + 1 ∧ off < off0 + new.length ∨ through p0 off0 new.length p = true))
    · refine .inl ?_
      simp only [killAt, Bool.or_eq_true, Bool.and_eq_true, beq_iff_eq, decide_eq_true_eq]
      rw [if_pos]
      exact ⟨hd.1, by rcases hd.2 with h | h; exact .inl ⟨h.1, h.2.1, h.2.2⟩; exact .inr h⟩
    · refine .inr ⟨k, ?_, main k p off 1 (fun a b c => hd ⟨a, .inl ⟨b, c⟩⟩) (fun a => by
        cases hh : through p0 off0 new.length p with
        | true => exact absurd ⟨a, .inr hh⟩ hd
        | false => rfl)⟩
      simp only [killAt, Bool.or_eq_true, Bool.and_eq_true, beq_iff_eq, decide_eq_true_eq]
      rw [if_neg]
      rintro ⟨a, b⟩
      exact hd ⟨a, by rcases b with h | h; exact .inl ⟨h.1, h.2.1, h.2.2⟩; exact .inr h⟩
  · intro k p off
    by_cases hd : (k = k0 ∧ through p0 off0 new.length p = true)
    · refine .inl ?_
      simp only [killAt, Bool.and_eq_true, decide_eq_true_eq]
      rw [if_pos hd]
    · refine .inr ⟨k, ?_, ?_⟩
      · simp only [killAt, Bool.and_eq_true, decide_eq_true_eq]
        rw [if_neg hd]
      · intro o gg aa h1 h2
        by_cases hkk : k = k0
        · subst hkk
          rw [hl] at h1
          cases h1
          have hth : through p0 off0 new.length p = false := by
            cases hh : through p0 off0 new.length p with
            | true => exact absurd ⟨rfl, hh⟩ hd
            | false => rfl
          exact ⟨o1, hself, by rw [(hw.1 p hth).1]; exact h2⟩
        · obtain ⟨e1, Bj, hB, hc⟩ := hother k o hkk h1
          exact ⟨o, e1, by rw [(keep_vals hc hB p).2]; exact h2⟩
theorem carry_swap {w w' : World} {Φ Φ' : Bool → Nat → Prop} {ρ : Nat → List Value} {ob : List (Nat × O)} {B : List Nat} {k0 : Nat} {o0 o1 : O} {p0 : List (Nat × Nat)} {off0 : Nat} {new : List C} {row : List C} {e : TypeId} {fz : Nat × Nat} {g a : Nat} {cur cur' : Array Value}
    (h : IsOb w Φ ρ ob B) (hk : (ob.map (·.1)).Nodup) (hnd : B.Nodup) (mono : ∀ x b, Φ x b → Φ' x b) (ro : ∀ x b, Φ x b → w'.heap[b]? = w.heap[b]?) (own : ∀ b ∈ B, b ≠ g → w'.heap[b]? = w.heap[b]?)
    (hl : look ob k0 = some o0) (hrow : getRow o0.cells p0 = some row) (hp : p0 ≠ []) (ha : addrAt w o0.cells (ρ k0) p0 = some (g, a)) (hg : w.heap[g]? = some (.cells cur e fz)) (hg' : w'.heap[g]? = some (.cells cur' e fz)) (hsize : cur'.size = cur.size)
    (hout : ∀ j, j < a + off0 ∨ a + off0 + new.length ≤ j → cur'[j]? = cur[j]?) (hfit : off0 + new.length ≤ row.length) (hset : setRow o0.cells p0 (setRange row off0 new) = some o1.cells) (hsm : cur' = cur) :
    Carry w w' Φ Φ' ob (put_ ob k0 o1) ρ ρ (killThru k0 p0 off0 new.length) (killThrus k0 p0 off0 new.length) := by
  obtain ⟨X, Bk, Y, rfl, e2, e3, e4, e5⟩ := IsOb.focus h hk hl
  have hndk : Bk.Nodup := by simp only [List.nodup_append] at hnd; exact hnd.2.1.1
  obtain ⟨g9, a9, cur9, e9, fz9, X9, Br9, Y9, rv9, f1, f2, f3, f4, f5, f6, f7, f8, f9, _⟩ := place p0 o0.cells (ρ k0) Bk row e2 hndk hrow hp
  rw [f1] at ha
  simp only [Option.some.injEq, Prod.mk.injEq] at ha
  obtain ⟨rfl, rfl⟩ := ha
  rw [f5] at hg
  simp only [Option.some.injEq, Obj.cells.injEq] at hg
  obtain ⟨rfl, rfl, rfl⟩ := hg
  have hgk : g9 ∈ Bk := by rw [f3]; simp [f4]
  have hw := write_path f5 hg' hsize p0 o0.cells (ρ k0) Bk row a9 o1.cells e2 hndk hrow hp f1 hout (fun b hb hne => own b (by simp [hb]) hne) hfit hset
  have hother : ∀ k o, k ≠ k0 → look ob k = some o → look (put_ ob k0 o1) k = some o ∧ ∃ Bj, (∀ b ∈ Bj, w'.heap[b]? = w.heap[b]?) ∧ IsCs w Φ o.cells (ρ k) Bj := by
    intro k o hkk h1
    obtain ⟨Bj, hB, hc⟩ := e3 k o hkk h1
    refine ⟨by rw [look_put, if_neg hkk]; exact h1, Bj, fun b hb => own b ?_ ?_, hc⟩
    · have := hB b hb; simp at this ⊢; rcases this with h | h <;> simp [h]
    · rintro rfl
      have := hB b hb
      simp only [List.nodup_append, List.mem_append, ne_eq] at hnd this
      rcases this with h | h
      · exact hnd.2.2 b h b (.inl hgk) rfl
      · exact hnd.2.1.2.2 b hgk b h rfl
  have hself : look (put_ ob k0 o1) k0 = some o1 := by rw [look_put, if_pos rfl, hl]; rfl
  have hrl : ∀ vs, valsAt w o0.cells (ρ k0) p0 = some vs → vs = (cur9.toList.drop a9).take row.length := by
    intro vs hv
    rw [f2] at hv
    cases hv
    exact f8
  have main : ∀ k p off n, (k = k0 → through p0 off0 new.length p = false) → ∀ o vs, look ob k = some o → valsAt w o.cells (ρ k) p = some vs → off + n ≤ vs.length →
      ∃ o' vs', look (put_ ob k0 o1) k = some o' ∧ valsAt w' o'.cells (ρ k) p = some vs' ∧ off + n ≤ vs'.length ∧ (vs'.drop off).take n = (vs.drop off).take n := by
    intro k p off n hth o vs h1 h2 h3
    by_cases hkk : k = k0
    · subst hkk
      rw [hl] at h1
      cases h1
      by_cases hpp : p = p0
      · subst hpp
        have hvs := hrl vs h2
        refine ⟨o1, vs, hself, ?_, h3, rfl⟩
        rw [hvs, ← hsm]
        exact hw.2
      · have := (hw.1 p (hth rfl)).2 hpp
        exact ⟨o1, vs, hself, by rw [this]; exact h2, h3, rfl⟩
    · obtain ⟨e1, Bj, hB, hc⟩ := hother k o hkk h1
      exact ⟨o, vs, e1, by rw [(keep_vals hc hB p).1]; exact h2, h3, rfl⟩
  refine { mono := mono, ro := ro, nil := rfl, cons := fun _ _ => rfl, fn := fun _ _ => rfl, tup := fun _ => rfl, rest := fun s hs => by cases s <;> first | rfl | exact hs.elim, vals := ?_, sub := ?_, ptr := ?_ }
  · intro k p off n
    by_cases hd : (k = k0 ∧ through p0 off0 new.length p = true)
    · exact .inl fun ag => by
        simp only [killThru, Bool.or_eq_true, Bool.and_eq_true, beq_iff_eq, decide_eq_true_eq]
        rw [if_pos]
        exact hd
    · refine .inr ⟨k, fun ag => ?_, main k p off n (fun a => by
        cases hh : through p0 off0 new.length p with
        | true => exact absurd ⟨a, hh⟩ hd
        | false => rfl)⟩
      simp only [killThru, Bool.or_eq_true, Bool.and_eq_true, beq_iff_eq, decide_eq_true_eq]
      rw [if_neg]
      rintro ⟨a, b⟩
      exact hd ⟨a, b⟩
  · intro k p off sz lo hi
    by_cases hd : (k = k0 ∧ through p0 off0 new.length p = true)
    · refine .inl ?_
      simp only [killThru, Bool.or_eq_true, Bool.and_eq_true, beq_iff_eq, decide_eq_true_eq]
      rw [if_pos]
      exact hd
    · refine .inr ⟨k, ?_, main k p off 1 (fun a => by
        cases hh : through p0 off0 new.length p with
        | true => exact absurd ⟨a, hh⟩ hd
        | false => rfl)⟩
      simp only [killThru, Bool.or_eq_true, Bool.and_eq_true, beq_iff_eq, decide_eq_true_eq]
      rw [if_neg]
      rintro ⟨a, b⟩
      exact hd ⟨a, b⟩
  · intro k p off
    by_cases hd : (k = k0 ∧ through p0 off0 new.length p = true)
    · refine .inl ?_
      simp only [killThru, Bool.and_eq_true, decide_eq_true_eq]
      rw [if_pos hd]
    · refine .inr ⟨k, ?_, ?_⟩
      · simp only [killThru, Bool.and_eq_true, decide_eq_true_eq]
        rw [if_neg hd]
      · intro o gg aa h1 h2
        by_cases hkk : k = k0
        · subst hkk
          rw [hl] at h1
          cases h1
          have hth : through p0 off0 new.length p = false := by
            cases hh : through p0 off0 new.length p with
            | true => exact absurd ⟨rfl, hh⟩ hd
            | false => rfl
          exact ⟨o1, hself, by rw [(hw.1 p hth).1]; exact h2⟩
        · obtain ⟨e1, Bj, hB, hc⟩ := hother k o hkk h1
          exact ⟨o, e1, by rw [(keep_vals hc hB p).2]; exact h2⟩
end Go.Proofs.YtckojpaklblnpaaGreatDoor.Ev
