/- Go code run on plain data: values, a heap of what the call owns, operations, code, calls. Definitions alone. -/
import Derived.Test.YtgcciohenncplaaProg
import Derived.Below
import Derived.Orders
namespace Go.Proofs.Ytgcciohenncplaa.Ai
noncomputable section

/-- A value as far as it is known. 'top': not known. 'ptr', 'sl': into what the call owns (block, row, cell). 'rptr', 'ro': into what nobody writes any more: told by what is there. -/
inductive AV where
  | top
  | bool (b : Bool)
  | int (k : IntKind) (n : Int)
  | str (l : List UInt8)
  | nilp
  | ptr (id i k : Nat)
  | rptr (row : List AV) (k : Nat)
  | nils
  | emp
  | sl (id i n sz : Nat) (tight : Bool)
  | ro (rows : List (List AV))
  | nilm
  | map (id : Nat)
  | fn (f : Nat) (caps : List AV)
  | nilf
  | agg (cs : List AV)
  | tup (vs : List AV)

/-- One cell's value. -/
def AV.scal : AV → Bool
  | .top | .agg _ | .tup _ => false
  | _ => true
def scals (l : List AV) : Bool := l.all AV.scal
/-- A value's cells. -/
def AV.cells : AV → List AV
  | .agg cs => cs
  | v => [v]

def mapO {α β : Type} (f : α → Option β) : List α → Option (List β)
  | [] => some []
  | x :: r => match f x, mapO f r with
    | some y, some ys => some (y :: ys)
    | _, _ => none

/-- 'bld': a strings.Builder that nothing was done with. 'buf': a Builder's buffer: its bytes. -/
inductive Blk where
  | rows (rs : List (List AV))
  | map (es : List (AV × AV))
  | bld
  | buf (l : List UInt8)
/-- The type strings.Builder. -/
def bT : Nat := 109
/-- The type uint8. -/
def uT : Nat := 5

abbrev Heap := Nat → Option Blk
/-- What is known of memory. 'n': block names from there on are new. 'lim': what is named below it is not written. -/
structure AS where
  h : Heap
  n : Nat
  lim : Nat

noncomputable def Heap.upd (h : Heap) (i : Nat) (b : Option Blk) : Heap := fun j => @Bool.rec (fun _ => Option Blk) (h j) b (Nat.beq j i)

abbrev M (α : Type) := AS → Option (α × AS)
abbrev Fr := List AV

inductive Opd where
  | tmp (t : Nat)
  | const (v : AV)

def Opd.ev (F : Fr) : Opd → AV
  | .tmp t => F.getD t .top
  | .const v => v

inductive ABin where
  | add | sub | mul | quo | rem | and | or | xor | shl | shr | eql | neq | lss | leq | gtr | geq

/-- Operations that look at no memory. -/
inductive POp where
  | mv (x : Opd)
  | pick (c a b : Opd)
  | build (z : List AV) (parts : List (Nat × Nat × Opd))
  | nilchk (x : Opd)
  | bin (op : ABin) (x y : Opd)
  | eqb (neg : Bool) (x y : Opd)
  | eqnil (neg : Bool) (kd : Nat) (x y : Opd)
  | eqs (neg : Bool) (ks : List Bool) (x y : Opd)
  | notb (x : Opd)
  | negi (x : Opd)
  | fld (off : Nat) (x : Opd)
  | part (ag : Bool) (off sz : Nat) (x : Opd)
  | idx (sz : Nat) (x i : Opd)
  | idxa (len sz : Nat) (x i : Opd)
  | idxs (s i : Opd)
  | cuts (x : Opd) (lo hi : Option Opd)
  | cut (sz : Nat) (x : Opd) (lo hi mx : Option Opd)
  | lenS (st : Bool) (x : Opd)
  | extract (x : Opd) (i : Nat)
  | mkfn (f : Nat) (caps : List Opd)
  | conv (k : IntKind) (x : Opd)
  | mini (x y : Opd)
  | maxi (x y : Opd)
/-- Operations that read memory. -/
inductive ROp where
  | load (ag : Bool) (sz : Nat) (a : Opd)
  | lookup (z : AV) (ok : Bool) (ks : List Bool) (m k : Opd)
  | lenM (m : Opd)
  | b2s (x : Opd)
/-- A slice written out: frozen at once. -/
structure KOp where
  z : List AV
  len : Nat
  parts : List (Nat × Opd)
/-- Operations that make a block and do nothing else. -/
inductive LOp where
  | alloc (z : List AV)
  | box (x : Opd)
  | mkrow (z : List AV) (n : Opd)
  | mkmap
  | allocB
/-- All others. -/
inductive EOp where
  | store (a v : Opd) (sz : Nat)
  | append (sz bytes : Nat) (s x : Opd)
  | mapset (ks : List Bool) (m k v : Opd)
  | mapent (ks : List Bool) (z : AV) (m k : Opd)
  | entset (m st v : Opd)
  | call (q : Bool) (f : Nat) (args : List Opd)
  | callv (q : Bool) (f : Opd) (args : List Opd)
  | bad
inductive AOp where
  | p (o : POp)
  | r (o : ROp)
  | k (o : KOp)
  | l (o : LOp)
  | e (o : EOp)

/-- 'ck': readings that must give behind it what they gave ahead of it. -/
structure AIns where
  ix : Nat
  dst : Option Nat
  guard : Option (Nat × Bool)
  op : AOp
  ck : List (Option (Nat × Bool) × ROp)

def iwrap (k : IntKind) (n : Int) : Int := k.wrap n

def binA : ABin → AV → AV → Option AV
  | .add, .int k a, .int k' b => if k = k' then some (.int k (k.wrap (a + b))) else none
  | .sub, .int k a, .int k' b => if k = k' then some (.int k (k.wrap (a - b))) else none
  | .mul, .int k a, .int k' b => if k = k' then some (.int k (k.wrap (a * b))) else none
  | .quo, .int k a, .int k' b => if k = k' then if b = 0 then none else some (.int k (k.wrap (a.tdiv b))) else none
  | .rem, .int k a, .int k' b => if k = k' then if b = 0 then none else some (.int k (a.tmod b)) else none
  | .and, .int k a, .int k' b => if k = k' then some (.int k (k.wrap ((BitVec.ofInt k.bits a &&& BitVec.ofInt k.bits b).toNat : Nat))) else none
  | .or, .int k a, .int k' b => if k = k' then some (.int k (k.wrap ((BitVec.ofInt k.bits a ||| BitVec.ofInt k.bits b).toNat : Nat))) else none
  | .xor, .int k a, .int k' b => if k = k' then some (.int k (k.wrap ((BitVec.ofInt k.bits a ^^^ BitVec.ofInt k.bits b).toNat : Nat))) else none
  | .shl, .int k a, .int _ b => if b < 0 then none else some (.int k (k.wrap (a * 2 ^ (min b.toNat k.bits))))
  | .shr, .int k a, .int _ b => if b < 0 then none else some (.int k (a.fdiv (2 ^ (min b.toNat k.bits))))
  | .eql, .int k a, .int k' b => if k = k' then some (.bool (a == b)) else none
  | .neq, .int k a, .int k' b => if k = k' then some (.bool (a != b)) else none
  | .lss, .int k a, .int k' b => if k = k' then some (.bool (decide (a < b))) else none
  | .leq, .int k a, .int k' b => if k = k' then some (.bool (decide (a ≤ b))) else none
  | .gtr, .int k a, .int k' b => if k = k' then some (.bool (decide (a > b))) else none
  | .geq, .int k a, .int k' b => if k = k' then some (.bool (decide (a ≥ b))) else none
  | .add, .str a, .str b => if a.length + b.length ≤ 9223372036854775807 then some (.str (a ++ b)) else none
  | .eql, .str a, .str b => some (.bool (a == b))
  | .neq, .str a, .str b => some (.bool (!(a == b)))
  | .lss, .str a, .str b => some (.bool (Go.Op.bytesLess a b))
  | .geq, .str a, .str b => some (.bool (!(Go.Op.bytesLess a b)))
  | _, _, _ => none

def eqbA (neg : Bool) : AV → AV → Option AV
  | .bool a, .bool b => some (.bool ((a == b) != neg))
  | _, _ => none
/-- Slices, pointers, maps, functions: one of the two is nil. -/
def isnil : Nat → AV → Option Bool
  | 0, .nils => some true
  | 0, .emp => some false
  | 0, .sl .. => some false
  | 0, .ro _ => some false
  | 1, .nilp => some true
  | 1, .ptr .. => some false
  | 1, .rptr .. => some false
  | 2, .nilm => some true
  | 2, .map _ => some false
  | 3, .nilf => some true
  | 3, .fn .. => some false
  | _, _ => none
def eqnilA (neg : Bool) (kd : Nat) (x y : AV) : Option AV :=
  match isnil kd x, isnil kd y with
  | some true, some b => some (.bool (b != neg))
  | some b, some true => some (.bool (b != neg))
  | _, _ => none
/-- Cells that are whole numbers (false) or texts (true): alike? -/
def eqcells : List Bool → List AV → List AV → Option Bool
  | [], [], [] => some true
  | true :: ks, .str a :: xs, .str b :: ys => if a == b then eqcells ks xs ys else some false
  | false :: ks, .int k a :: xs, .int k' b :: ys => if k = k' then if a == b then eqcells ks xs ys else some false else none
  | _, _, _ => none
def eqsA (neg : Bool) (ks : List Bool) : AV → AV → Option AV
  | .agg xs, .agg ys =>
    match eqcells ks xs ys with
    | some b => some (.bool (b != neg))
    | none => none
  | _, _ => none

/-- Parts laid into a row of cells. -/
def fillA (cs : List AV) : List (Nat × Nat × AV) → Option (List AV)
  | [] => some cs
  | (off, sz, v) :: r => if v.cells.length = sz ∧ off + sz ≤ cs.length ∧ scals v.cells = true then fillA (cs.take off ++ v.cells ++ cs.drop (off + sz)) r else none

def asNat : AV → Option Nat
  | .int _ n => if 0 ≤ n then some n.toNat else none
  | _ => none
/-- The bounds of a cut: low, high. -/
def bound (F : Fr) (d : Nat) : Option Opd → Option Nat
  | none => some d
  | some o => asNat (o.ev F)

def optNat (F : Fr) : Option Opd → Option (Option Nat)
  | none => some none
  | some h => (asNat (h.ev F)).map some
def headLen (sz : Nat) : List (List AV) → Bool
  | [] => true
  | r :: _ => r.length == sz

def cutA (sz : Nat) (x : AV) (lo : Nat) (hi : Option Nat) (mx : Option Nat) : Option AV :=
  match x, mx with
  | .nils, none => if lo = 0 ∧ hi.getD 0 = 0 then some .nils else none
  | .nils, some m => if lo = 0 ∧ hi = some 0 ∧ m = 0 then some .nils else none
  | .emp, none => if lo = 0 ∧ hi.getD 0 = 0 then some .emp else none
  | .emp, some m => if lo = 0 ∧ hi = some 0 ∧ m = 0 then some .emp else none
  | .sl id i n z t, none =>
    let h := hi.getD n
    if lo ≤ h ∧ h ≤ n ∧ (lo = 0 ∨ lo < h) ∧ (t = false ∨ h = n) ∧ z = sz then some (.sl id (i + lo) (h - lo) z t) else none
  | .sl _ _ _ _ _, some m => if lo = 0 ∧ hi = some 0 ∧ m = 0 then some .emp else none
  | .ro rows, none =>
    let h := hi.getD rows.length
    if lo ≤ h ∧ h ≤ rows.length ∧ headLen sz rows = true then some (.ro ((rows.take h).drop lo)) else none
  | .ro _, some m => if lo = 0 ∧ hi = some 0 ∧ m = 0 then some .emp else none
  | _, _ => none

def lenA : Bool → AV → Option AV
  | true, .str l => some (.int .i64 l.length)
  | false, .nils => some (.int .i64 0)
  | false, .emp => some (.int .i64 0)
  | false, .sl _ _ n _ _ => some (.int .i64 n)
  | false, .ro rows => some (.int .i64 rows.length)
  | _, _ => none

def idxA (sz : Nat) (x i : AV) : Option AV :=
  match asNat i with
  | none => none
  | some j =>
    match x with
    | .sl id i0 n z _ => if j < n ∧ z = sz then some (.ptr id (i0 + j) 0) else none
    | .ro rows => match rows[j]? with
      | some row => if row.length = sz then some (.rptr row 0) else none
      | none => none
    | _ => none

def partA (ag : Bool) (off sz : Nat) (cs : List AV) : Option AV :=
  if ag then if off + sz ≤ cs.length then some (.agg ((cs.drop off).take sz)) else none else cs[off]?

def POp.ev (F : Fr) : POp → Option AV
  | .mv x => some (x.ev F)
  | .pick c a b => match c.ev F with
    | .bool true => some (a.ev F)
    | .bool false => some (b.ev F)
    | _ => none
  | .build z ps => match fillA z (ps.map fun p => (p.1, p.2.1, p.2.2.ev F)) with
    | some cs => some (.agg cs)
    | none => none
  | .nilchk x => match x.ev F with
    | .ptr id i k => some (.ptr id i k)
    | .rptr row k => some (.rptr row k)
    | .fn f c => some (.fn f c)
    | _ => none
  | .bin op x y => binA op (x.ev F) (y.ev F)
  | .eqb neg x y => eqbA neg (x.ev F) (y.ev F)
  | .eqnil neg kd x y => eqnilA neg kd (x.ev F) (y.ev F)
  | .eqs neg ks x y => eqsA neg ks (x.ev F) (y.ev F)
  | .notb x => match x.ev F with
    | .bool b => some (.bool (!b))
    | _ => none
  | .negi x => match x.ev F with
    | .int k n => some (.int k (k.wrap (0 - n)))
    | _ => none
  | .fld off x => match x.ev F with
    | .ptr id i k => some (.ptr id i (k + off))
    | .rptr row k => some (.rptr row (k + off))
    | _ => none
  | .part ag off sz x => match x.ev F with
    | .agg cs => partA ag off sz cs
    | _ => none
  | .idx sz x i => idxA sz (x.ev F) (i.ev F)
  | .idxa len sz x i => match asNat (i.ev F), x.ev F with
    | some j, .ptr id r k => if j < len then some (.ptr id r (k + j * sz)) else none
    | some j, .rptr row k => if j < len then some (.rptr row (k + j * sz)) else none
    | _, _ => none
  | .idxs s i => match s.ev F, asNat (i.ev F) with
    | .str l, some j => match l[j]? with
      | some b => some (.int .u8 b.toNat)
      | none => none
    | _, _ => none
  | .cuts x lo hi => match x.ev F, bound F 0 lo with
    | .str l, some a => match bound F l.length hi with
      | some b => if a ≤ b ∧ b ≤ l.length then some (.str ((l.take b).drop a)) else none
      | none => none
    | _, _ => none
  | .cut sz x lo hi mx => match bound F 0 lo, optNat F hi, optNat F mx with
    | some a, some b, some c => cutA sz (x.ev F) a b c
    | _, _, _ => none
  | .lenS st x => lenA st (x.ev F)
  | .extract x i => match x.ev F with
    | .tup vs => vs[i]?
    | _ => none
  | .mkfn f caps => some (.fn f (caps.map (·.ev F)))
  | .conv k x => match x.ev F with
    | .int _ n => some (.int k (k.wrap n))
    | _ => none
  | .mini x y => match x.ev F, y.ev F with
    | .int k a, .int k' b => if k = k' then some (.int k (if b < a then b else a)) else none
    | _, _ => none
  | .maxi x y => match x.ev F, y.ev F with
    | .int k a, .int k' b => if k = k' then some (.int k (if b > a then b else a)) else none
    | _, _ => none

/-- The rows of a slice, as memory has them. -/
def rowsOf (h : Heap) : AV → Option (List (List AV))
  | .nils => some []
  | .emp => some []
  | .sl id i n _ _ => match h id with
    | some (.rows rs) => if i + n ≤ rs.length then some ((rs.drop i).take n) else none
    | _ => none
  | .ro rows => some rows
  | .str l => some (l.map fun b => [.int .u8 (b.toNat : Int)])
  | _ => none

def takeRow (ag : Bool) (sz k : Nat) (row : List AV) : Option AV :=
  if ag then if k + sz ≤ row.length then some (.agg ((row.drop k).take sz)) else none else row[k]?

/-- A key: a text, or a struct of texts and whole numbers. -/
def eqkey : List Bool → AV → AV → Option Bool
  | [], .str a, .str b => some (a == b)
  | k :: ks, .agg xs, .agg ys => eqcells (k :: ks) xs ys
  | _, _, _ => none
def goodK (ks : List Bool) (k : AV) : Bool := match eqkey ks k k with
  | some true => true
  | _ => false
/-- Which of them has the key? -/
def findIx (ks : List Bool) (k : AV) : List (AV × AV) → Option (Option Nat)
  | [] => some none
  | e :: es => match eqkey ks k e.1 with
    | some true => some (some 0)
    | some false => match findIx ks k es with
      | some (some i) => some (some (i + 1))
      | some none => some none
      | none => none
    | none => none
def findA (ks : List Bool) (k : AV) (es : List (AV × AV)) : Option (Option AV) :=
  match findIx ks k es with
  | some (some i) => match es[i]? with
    | some e => some (some e.2)
    | none => none
  | some none => some none
  | none => none

def bytesOf : List (List AV) → Option (List UInt8)
  | [] => some []
  | [.int .u8 n] :: r => if 0 ≤ n ∧ n < 256 then (bytesOf r).map (UInt8.ofNat n.toNat :: ·) else none
  | _ :: _ => none

def ROp.ev (F : Fr) (h : Heap) : ROp → Option AV
  | .load ag sz a => match a.ev F with
    | .ptr id i k => match h id with
      | some (.rows rs) => match rs[i]? with
        | some row => takeRow ag sz k row
        | none => none
      | _ => none
    | .rptr row k => takeRow ag sz k row
    | _ => none
  | .lookup z ok ks m k => if goodK ks (k.ev F) then match (match m.ev F with
      | .nilm => some (some none)
      | .map id => match h id with
        | some (.map es) => some (findA ks (k.ev F) es)
        | _ => none
      | _ => none) with
    | some (some (some v)) => some (if ok then .tup [v, .bool true] else v)
    | some (some none) => some (if ok then .tup [z, .bool false] else z)
    | _ => none
    else none
  | .lenM m => match m.ev F with
    | .nilm => some (.int .i64 0)
    | .map id => match h id with
      | some (.map es) => some (.int .i64 es.length)
      | _ => none
    | _ => none
  | .b2s x => match rowsOf h (x.ev F) with
    | some rows => match bytesOf rows with
      | some l => some (.str l)
      | none => none
    | none => none
/-- The block that a reading looks at. -/
def ROp.id (F : Fr) : ROp → Option Nat
  | .load _ _ a => match a.ev F with
    | .ptr id _ _ => some id
    | _ => none
  | .lookup _ _ _ m _ | .lenM m => match m.ev F with
    | .map id => some id
    | _ => none
  | .b2s x => match x.ev F with
    | .sl id _ _ _ _ => some id
    | _ => none

/-- Parts laid into rows. -/
def fillRows (rs : List (List AV)) : List (Nat × AV) → Option (List (List AV))
  | [] => some rs
  | (i, v) :: r => match rs[i]? with
    | some row => if v.cells.length = row.length ∧ scals v.cells then fillRows (rs.set i v.cells) r else none
    | none => none

def KOp.ev (F : Fr) (o : KOp) : Option AV :=
  match fillRows (List.replicate o.len o.z) (o.parts.map fun p => (p.1, p.2.ev F)) with
  | some [] => some .emp
  | some rs => some (.ro rs)
  | none => none
/-- The block that is made, and what is told of it. -/
def LOp.ev (F : Fr) (aid : Nat) : LOp → Option (Blk × AV)
  | .alloc z => some (.rows [z], .ptr aid 0 0)
  | .box x => if scals (x.ev F).cells then some (.rows [(x.ev F).cells], .ptr aid 0 0) else none
  | .mkrow z n => match n.ev F with
    | .int .i64 m => if 0 ≤ m ∧ m ≤ 1000000 then some (.rows (List.replicate m.toNat z), .sl aid 0 m.toNat z.length false) else none
    | _ => none
  | .mkmap => some (.map [], .map aid)
  | .allocB => some (.bld, .ptr aid 0 0)

def setCells (row : List AV) (k : Nat) (cs : List AV) : List AV := row.take k ++ cs ++ row.drop (k + cs.length)

/-- What is frozen is told by what is there. Blocks named below 'lo' stay as they are. -/
def freeze (h : Heap) (lo : Nat) : Nat → AV → Option AV
  | 0, _ => none
  | d + 1, v =>
    match v with
    | .sl id i n z t => if id < lo then some (.sl id i n z t) else
      match h id with
      | some (.rows rs) => if i + n ≤ rs.length then
          match mapO (mapO (freeze h lo d)) ((rs.drop i).take n) with
          | some rows => some (.ro rows)
          | none => none
        else none
      | _ => none
    | .ptr id i k => if id < lo then some (.ptr id i k) else
      match h id with
      | some (.rows rs) => match rs[i]? with
        | some row => match mapO (freeze h lo d) row with
          | some r => some (.rptr r k)
          | none => none
        | none => none
      | _ => none
    | .map id => if id < lo then some (.map id) else none
    | .fn f caps => match mapO (freeze h lo d) caps with
      | some c => some (.fn f c)
      | none => none
    | .agg cs => match mapO (freeze h lo d) cs with
      | some c => some (.agg c)
      | none => none
    | .tup vs => match mapO (freeze h lo d) vs with
      | some c => some (.tup c)
      | none => none
    | v => some v

/-- A call whose own blocks are frozen behind it; what was there before it may not be written by it. -/
def quiet (call : Nat → List AV → M AV) (f : Nat) (args : List AV) : M AV := fun s =>
  match call f args { h := s.h, n := s.n, lim := s.n } with
  | some (v, s') => match freeze s'.h s.n 30 v with
    | some v' => some (v', { h := s.h, n := s'.n, lim := s.lim })
    | none => none
  | none => none

def mapPut (ks : List Bool) (k v : AV) (es : List (AV × AV)) : Option (List (AV × AV)) :=
  match findIx ks k es with
  | some (some i) => some (es.set i (k, v))
  | some none => some (es ++ [(k, v)])
  | none => none
/-- An entry, made if it is not there: what it has, its number, the entries. -/
def mapEnt (ks : List Bool) (z k : AV) (es : List (AV × AV)) : Option (AV × Nat × List (AV × AV)) :=
  match findIx ks k es with
  | some (some i) => match es[i]? with
    | some e => some (e.2, i, es.set i (k, e.2))
    | none => none
  | some none => some (z, es.length, es ++ [(k, z)])
  | none => none
def mapSet (i : Nat) (v : AV) (es : List (AV × AV)) : Option (List (AV × AV)) :=
  match es[i]? with
  | some e => some (es.set i (e.1, v))
  | none => none

def EOp.ev (call : Nat → List AV → M AV) (F : Fr) (aid : Nat) : EOp → M AV
  | .store a v sz => fun s => match a.ev F with
    | .ptr id i k => match s.h id with
      | some (.rows rs) => match rs[i]? with
        | some row => let cs := (v.ev F).cells
          if cs.length = sz ∧ k + sz ≤ row.length ∧ scals cs ∧ Nat.ble s.lim id then some (.tup [], { s with h := s.h.upd id (some (.rows (rs.set i (setCells row k cs)))) }) else none
        | none => none
      | _ => none
    | _ => none
  | .append sz bytes a x => fun s =>
    match rowsOf s.h (x.ev F) with
    | none => none
    | some new => if new.all (fun r => r.length == sz && scals r) then
      match a.ev F with
      | .nils => if new.length = 0 then some (.nils, s) else if new.length * bytes ≤ 140737488355328 ∧ new.length ≤ 9223372036854775807 then some (.sl aid 0 new.length sz false, { s with h := s.h.upd aid (some (.rows new)) }) else none
      | .emp => if new.length = 0 then some (.emp, s) else if new.length * bytes ≤ 140737488355328 ∧ new.length ≤ 9223372036854775807 then some (.sl aid 0 new.length sz false, { s with h := s.h.upd aid (some (.rows new)) }) else none
      | .sl id i n z t =>
        match s.h id with
        | some (.rows rs) =>
          if i = 0 ∧ n ≤ rs.length ∧ Nat.ble s.lim id ∧ (n + new.length) * bytes ≤ 140737488355328 ∧ n + new.length ≤ 9223372036854775807 ∧ t = false ∧ z = sz then
            if n + new.length ≤ rs.length then some (.sl id 0 (n + new.length) sz false, { s with h := s.h.upd id (some (.rows (rs.take n ++ new ++ rs.drop (n + new.length)))) })
            else some (.sl aid 0 (n + new.length) sz false, { s with h := (s.h.upd id none).upd aid (some (.rows (rs.take n ++ new))) })
          else none
        | _ => none
      | _ => none
      else none
  | .mapset ks m k v => fun s => match m.ev F with
    | .map id => match s.h id with
      | some (.map es) => if Nat.ble s.lim id ∧ scals (v.ev F).cells ∧ goodK ks (k.ev F) then match mapPut ks (k.ev F) (v.ev F) es with
        | some r => some (.tup [], { s with h := s.h.upd id (some (.map r)) })
        | none => none
        else none
      | _ => none
    | _ => none
  | .mapent ks z m k => fun s => match m.ev F with
    | .map id => match s.h id with
      | some (.map es) => if Nat.ble s.lim id ∧ scals z.cells ∧ goodK ks (k.ev F) then match mapEnt ks z (k.ev F) es with
        | some (v, i, r) => some (.tup [v, .int .i64 i], { s with h := s.h.upd id (some (.map r)) })
        | none => none
        else none
      | _ => none
    | _ => none
  | .entset m st v => fun s => match m.ev F, st.ev F with
    | .map id, .int .i64 (.ofNat i) => match s.h id with
      | some (.map es) => if Nat.ble s.lim id ∧ scals (v.ev F).cells then match mapSet i (v.ev F) es with
        | some r => some (.tup [], { s with h := s.h.upd id (some (.map r)) })
        | none => none
        else none
      | _ => none
    | _, _ => none
  | .call q f args => fun s => if q then quiet call f (args.map (·.ev F)) s else call f (args.map (·.ev F)) s
  | .callv q f args => fun s => match f.ev F with
    | .fn g caps => if q then quiet call g (args.map (·.ev F) ++ caps) s else call g (args.map (·.ev F) ++ caps) s
    | _ => none
  | .bad => fun _ => none

def AOp.ev (call : Nat → List AV → M AV) (F : Fr) (aid : Nat) : AOp → M AV
  | .p o => fun s => match o.ev F with
    | some v => some (v, s)
    | none => none
  | .r o => fun s => match o.ev F s.h with
    | some v => some (v, s)
    | none => none
  | .k o => fun s => match o.ev F with
    | some v => some (v, s)
    | none => none
  | .l o => fun s => match s.h aid, o.ev F aid with
    | none, some (b, v) => some (v, { s with h := s.h.upd aid (some b) })
    | _, _ => none
  | .e o => o.ev call F aid

def putD (F : Fr) (d : Option Nat) (v : AV) : Fr :=
  match d with
  | some i => F.set i v
  | none => F

/-- Is an operation carried out? none: not known. -/
def wantedG (F : Fr) (g : Option (Nat × Bool)) : Option Bool :=
  match g with
  | none => some true
  | some (g, want) => match F.getD g .top with
    | .bool b => some (b == want)
    | .tup _ => some false
    | _ => none
def AIns.wanted (F : Fr) (i : AIns) : Option Bool := wantedG F i.guard

def all2 {α : Type} (f : α → α → Bool) : List α → List α → Bool
  | [], [] => true
  | x :: xs, y :: ys => f x y && all2 f xs ys
  | _, _ => false
/-- One and the same. -/
def same : Nat → AV → AV → Bool
  | 0, _, _ => false
  | d + 1, x, y =>
    match x, y with
    | .top, .top => true
    | .bool a, .bool b => a == b
    | .int k a, .int k' b => decide (k = k') && decide (a = b)
    | .str a, .str b => a == b
    | .nilp, .nilp => true
    | .ptr a b c, .ptr a' b' c' => Nat.beq a a' && Nat.beq b b' && Nat.beq c c'
    | .rptr r k, .rptr r' k' => Nat.beq k k' && all2 (same d) r r'
    | .nils, .nils => true
    | .emp, .emp => true
    | .sl a b c e t, .sl a' b' c' e' t' => Nat.beq a a' && Nat.beq b b' && Nat.beq c c' && Nat.beq e e' && (t == t')
    | .ro rs, .ro rs' => all2 (all2 (same d)) rs rs'
    | .nilm, .nilm => true
    | .map a, .map b => Nat.beq a b
    | .fn f c, .fn f' c' => Nat.beq f f' && all2 (same d) c c'
    | .nilf, .nilf => true
    | .agg c, .agg c' => all2 (same d) c c'
    | .tup c, .tup c' => all2 (same d) c c'
    | _, _ => false
def recheck (F : Fr) (h h' : Heap) (c : Option (Nat × Bool) × ROp) : Bool :=
  match wantedG F c.1 with
  | some false => true
  | _ => match c.2.ev F h, c.2.ev F h' with
    | some u, some u' => same 8 u u'
    | _, _ => false

def AIns.step (call : Nat → List AV → M AV) (base : Nat) (i : AIns) (F : Fr) : M Fr := fun s =>
  match i.wanted F with
  | some true => match i.op.ev call F (base + i.ix) s with
    | some (v, s') => if i.ck.all (recheck F s.h s'.h) then some (putD F i.dst v, s') else none
    | none => none
  | some false => some (putD F i.dst (.tup []), s)
  | none => none

def runOps (call : Nat → List AV → M AV) (base : Nat) : List AIns → Fr → M Fr
  | [], F => fun s => some (F, s)
  | i :: r, F => fun s => match i.step call base F s with
    | some (F', s') => runOps call base r F' s'
    | none => none

inductive AC where
  | skip
  | ops (l : List AIns) (n : Nat) (keep : List Nat)
  | seq (a b : AC)
  | cond (c : Opd) (a b : AC)
  | block (id : Nat) (a : AC)
  | loop (a : AC)
  | exit (id : Nat)
  | ret

inductive Ex where
  | norm
  | exit (id : Nat)
  | ret

/-- Slots that are not wanted any more are forgotten. 'keep': the slots to keep, in their order. -/
def forgetFrom : Nat → Fr → List Nat → Fr
  | _, [], _ => []
  | i, _ :: F, [] => .top :: forgetFrom i F []
  | i, x :: F, j :: r => bif Nat.beq i j then x :: forgetFrom (Nat.succ i) F r else .top :: forgetFrom (Nat.succ i) F (j :: r)
def forget (F : Fr) (keep : List Nat) : Fr := forgetFrom 0 F keep

def loopF (body : Fr → M (Ex × Fr)) : Nat → Fr → M (Ex × Fr)
  | 0, _ => fun _ => none
  | n + 1, F => fun s => match body F s with
    | some ((.norm, F'), s') => loopF body n F' s'
    | r => r

def acode (call : Nat → List AV → M AV) (fuel : Nat) : AC → Fr → M (Ex × Fr)
  | .skip, F => fun s => some ((.norm, F), s)
  | .ops l n keep, F => fun s => match runOps call s.n l F { s with n := s.n + n } with
    | some (F', s') => some ((.norm, forget F' keep), s')
    | none => none
  | .seq a b, F => fun s => match acode call fuel a F s with
    | some ((.norm, F'), s') => acode call fuel b F' s'
    | r => r
  | .cond c a b, F => fun s => match c.ev F with
    | .bool true => acode call fuel a F s
    | .bool false => acode call fuel b F s
    | _ => none
  | .block id a, F => fun s => match acode call fuel a F s with
    | some ((.exit j, F'), s') => some ((bif Nat.beq j id then .norm else .exit j, F'), s')
    | r => r
  | .loop a, F => loopF (acode call fuel a) fuel F
  | .exit id, F => fun s => some ((.exit id, F), s)
  | .ret, F => fun s => some ((.ret, F), s)

inductive ARes where
  | tmp (t : Nat)
  | cell (a : Nat) (ag : Bool) (sz : Nat)

structure AFn where
  nargs : Nat
  ntmps : Nat
  res : List ARes
  code : AC

def resOne (F : Fr) (h : Heap) : ARes → Option AV
  | .tmp t => some (F.getD t (.tup []))
  | .cell a ag sz => (ROp.load ag sz (.tmp a)).ev F h
def resAll (F : Fr) (h : Heap) : List ARes → Option (List AV)
  | [] => some []
  | r :: l => match resOne F h r, resAll F h l with
    | some v, some vs => some (v :: vs)
    | _, _ => none
def shut : List AV → AV
  | [v] => v
  | vs => .tup vs

/-- A call. 'G': functions whose answers are known otherwise. -/
def acall (fns : Nat → Option AFn) (G : Nat → List AV → M AV) : Nat → Nat → List AV → M AV
  | 0, _, _ => fun _ => none
  | k + 1, f, args => fun s =>
    match G f args s with
    | some r => some r
    | none =>
      match fns f with
      | none => none
      | some A => if args.length = A.nargs then
        match acode (acall fns G k) k A.code (args ++ List.replicate (A.ntmps - A.nargs) (.tup [])) s with
        | some ((.norm, F), s') => match resAll F s'.h A.res with
          | some vs => some (shut vs, s')
          | none => none
        | some ((.ret, F), s') => match resAll F s'.h A.res with
          | some vs => some (shut vs, s')
          | none => none
        | _ => none
        else none

end
end Go.Proofs.Ytgcciohenncplaa.Ai
