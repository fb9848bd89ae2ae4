/- The evaluator: operations on values, code, functions; the limit over fuel, and its equations. No program in sight. -/
import Derived.Test.YtpmpofcokkgfdaaGreatDoorEv0
namespace Go.Proofs.YtpmpofcokkgfdaaGreatDoor.Ev
open Go

inductive AArg where
  | t (n : Nat)
  | k (n : Nat)
  | c (v : V)
  deriving Inhabited

inductive Prim where
  | mv | pick
  | bin (op : BinOp)
  | un (op : UnOp)
  | beq (neg : Bool)
  | seq (ks : List Nat) (neg : Bool)
  | isnil (neg : Bool)
  | isnils (neg : Bool)
  | isifc (neg : Bool)
  | cvb
  | allocf (n : Nat)
  | boxc
  | storec (n : Nat)
  | loadc (n : Option Nat)
  | sidx
  | aidx (n sz : Nat) (ag : Bool)
  | iaddr (sz : Nat)
  | iaddra (n sz : Nat)
  | faddr (off : Nat)
  | load (n : Option Nat)
  | store (n : Nat)
  | ssl (lo hi : Bool)
  | lsl (sz : Nat) (lo hi mx : Bool)
  | slen | llen
  | append (sz bytes : Nat)
  | appends
  | call (f : Nat)
  | callp (f : Nat)
  | callt (f : Nat)
  | callv
  | ext (i : Nat)
  | fld (off : Nat) (n : Option Nat)
  | build (zero : List V) (parts : List (Nat × Nat))
  | builds (zero : List V) (parts : List (Nat × Nat))
  | bslice (sz n : Nat) (zero : List V) (parts : List (Nat × Nat))
  | bslicef (sz n : Nat) (zero : List V) (parts : List (Nat × Nat))
  | alloc (zero : List V)
  | box
  | convi (k : IntKind)
  | i2s
  | s2b | b2s
  | shf (op : BinOp)
  | anew (zero : List V)
  | abox
  | loadk
  | extk (i : Nat)
  | mkmap (kd : Option IntKind)
  | mget (kd : Option IntKind) (ok : Bool) (zero : V)
  | mset (kd : Option IntKind)
  | mkrow (sz bytes : Nat) (zero : List V)
  | copyb (sz : Nat)
  | rng | nxt
  | mkf (fn : Fn) (nf : Nat)
  | nilchk
  | asl (n sz : Nat)
  deriving Inhabited

structure AOp where
  dst : Option Nat
  g : Option (Nat × Bool) := none
  args : List AArg
  pr : Prim
  deriving Inhabited

inductive ACode where
  | skip
  | ops (l : List AOp) (clear drops : List Nat)
  | opsd (l : List AOp) (D : List Nat) (alts : List (List Nat)) (clear drops : List Nat)
  | seq (a b : ACode)
  | cond (c : AArg) (a b : ACode)
  | block (id : Nat) (b : ACode)
  | loop (b : ACode)
  | exit (id : Nat)
  | scope (b : ACode)
  | label (l : Nat)
  | goto (l : Nat)
  | ret
  | clr (cl dr : List Nat) (b : ACode)
  deriving Inhabited

inductive AExit where
  | normal
  | exit (id : Nat)
  | goto (l : Nat)
  | ret
  deriving Inhabited, DecidableEq

/-- What a call answers: a value, and the memory of the frames under it. -/
abbrev CallF := Nat → List V → Mem → Option (V × Mem)

def intBin (op : BinOp) (k : IntKind) (a b : Int) : Option V :=
  match op with
  | .add => some (.int k (k.wrap (a + b)))
  | .sub => some (.int k (k.wrap (a - b)))
  | .mul => some (.int k (k.wrap (a * b)))
  | .eql => some (.bool (a == b))
  | .neq => some (.bool (a != b))
  | .lss => some (.bool (decide (a < b)))
  | .leq => some (.bool (decide (a ≤ b)))
  | .gtr => some (.bool (decide (a > b)))
  | .geq => some (.bool (decide (a ≥ b)))
  | .quo => if b = 0 then none else some (.int k (k.wrap (a.tdiv b)))
  | .rem => if b = 0 then none else some (.int k (a.tmod b))
  | .and => some (.int k (k.wrap ((BitVec.ofInt k.bits a &&& BitVec.ofInt k.bits b).toNat : Int)))
  | .or => some (.int k (k.wrap ((BitVec.ofInt k.bits a ||| BitVec.ofInt k.bits b).toNat : Int)))
  | .xor => some (.int k (k.wrap ((BitVec.ofInt k.bits a ^^^ BitVec.ofInt k.bits b).toNat : Int)))
  | .andNot => some (.int k (k.wrap ((BitVec.ofInt k.bits a &&& ~~~ BitVec.ofInt k.bits b).toNat : Int)))
  | _ => none

def strBin (op : BinOp) (a b : List UInt8) : Option V :=
  match op with
  | .add => if a.length + b.length ≤ 9223372036854775807 then some (.str (a ++ b)) else none
  | .eql => some (.bool (a == b))
  | .neq => some (.bool (!(a == b)))
  | .lss => some (.bool (Op.bytesLess a b))
  | .leq => some (.bool (Op.bytesLess a b || a == b))
  | .gtr => some (.bool (!(Op.bytesLess a b || a == b)))
  | .geq => some (.bool (!(Op.bytesLess a b)))
  | _ => none

/-- Fields that are compared as they are: integers (0), strings (1), bools (2). -/
def cellEq : Nat → V → V → Option Bool
  | 0, .int k a, .int k' b => if k = k' then some (a == b) else none
  | 1, .str a, .str b => some (a == b)
  | 2, .bool a, .bool b => some (a == b)
  | _, _, _ => none

def cellsEq : List Nat → List V → List V → Option Bool
  | [], [], [] => some true
  | n :: ns, a :: r, b :: s => (cellEq n a b).bind fun e => bif e then cellsEq ns r s else some false
  | _, _, _ => none

def idxOk (i : Int) (n : Nat) : Bool := decide (0 ≤ i) && decide (i < (n : Int))

def asI : V → Option Int
  | .int _ i => some i
  | _ => none

/-- The bounds of a slice expression: from, to. -/
def bounds (len cap : Nat) : Bool → Bool → List V → Option (Nat × Nat)
  | false, false, [] => some (0, len)
  | true, false, [.int _ a] => if 0 ≤ a ∧ a ≤ (len : Int) then some (a.toNat, len) else none
  | false, true, [.int _ b] => if 0 ≤ b ∧ b ≤ (cap : Int) then some (0, b.toNat) else none
  | true, true, [.int _ a, .int _ b] => if 0 ≤ b ∧ b ≤ (cap : Int) ∧ 0 ≤ a ∧ a ≤ b then some (a.toNat, b.toNat) else none
  | _, _, _ => none

def spliceAt (off : Nat) (new : List V) (cs : List V) : List V := cs.take off ++ new ++ cs.drop (off + new.length)

def fillV : List (Nat × Nat) → List V → List V → Option (List V)
  | [], [], cs => some cs
  | (off, size) :: ps, x :: xs, cs => if x.cells.length = size ∧ off + size ≤ cs.length then fillV ps xs (spliceAt off x.cells cs) else none
  | _, _, _ => none

def loadV (n : Option Nat) (cs : List V) : Option V :=
  match n with
  | none => match cs with | c :: _ => some c.strip | [] => none
  | some k => if k ≤ cs.length then some (.agg (cs.take k)) else none

/-- A row is cut into elements of so many cells. -/
def chunk (sz : Nat) : Nat → List V → List V
  | 0, _ => []
  | n + 1, cs => (if sz = 1 then cs.headD .junk else .agg (cs.take sz)) :: chunk sz n (cs.drop sz)

def isLocal : V → Bool
  | .ptr .. => true
  | .func _ f c => !f.isEmpty || !c.isEmpty
  | .junk => true
  | .undef => true
  | .slc .. => true
  | .fptr _ => true
  | .mref _ => true
  | .iref _ => true
  | .mapv .. => true
  | .siter .. => true
  | .tup _ => true
  | .sagg _ => true
  | _ => false

def V.isOneCell : V → Bool
  | .agg _ => false
  | .sagg _ => false
  | .tup _ => false
  | .junk => false
  | .undef => false
  | .mapv .. => false
  | .siter .. => false
  | _ => true

def V.isOwn : V → Bool
  | .list _ _ o => o
  | .fptr _ => true
  | _ => false

/-- May this V stand in a cell of a row that is kept? -/
def okc (v : V) : Bool := v.isOneCell && !isLocal v && !v.isOwn

/-- May this be a part of a row that is kept? (The cells of a struct may.) -/
def data : V → Bool
  | .agg _ => true
  | v => okc v

def rMv : List V → Option V
  | [x] => some x
  | _ => none
def rPick : List V → Option V
  | [.bool c, a, b] => some (bif c then a.strip else b.strip)
  | _ => none
def rBin (op : BinOp) : List V → Option V
  | [.int k a, .int k' b] => if k = k' then intBin op k a b else none
  | [.str a, .str b] => strBin op a b
  | _ => none
def rShf (op : BinOp) : List V → Option V
  | [.int k a, .int _ b] =>
    if b < 0 then none else
    match op with
    | .shl => some (.int k (k.wrap (a * 2 ^ (min b.toNat k.bits))))
    | .shr => some (.int k (a.fdiv (2 ^ (min b.toNat k.bits))))
    | _ => none
  | _ => none
def rNot : List V → Option V
  | [.bool b] => some (.bool !b)
  | _ => none
def rNeg : List V → Option V
  | [.int k a] => some (.int k (k.wrap (0 - a)))
  | _ => none
def rBeq (neg : Bool) : List V → Option V
  | [.bool a, .bool b] => some (.bool (neg ^^ (a == b)))
  | _ => none
def rSeq (ks : List Nat) (neg : Bool) : List V → Option V
  | [.agg a, .agg b] => (cellsEq ks a b).map fun e => .bool (neg ^^ e)
  | _ => none
def rIsnil (neg : Bool) : List V → Option V
  | [.nilp] => some (.bool (neg ^^ true))
  | [.ptr ..] => some (.bool (neg ^^ false))
  | [.cptr _] => some (.bool (neg ^^ false))
  | _ => none
/-- A slice held against nil: of an empty one it is not known. -/
def rIsnils (neg : Bool) : List V → Option V
  | [.nils _] => some (.bool (neg ^^ true))
  | [.emp _] => some (.bool (neg ^^ false))
  | [.list _ (_ :: _) _] => some (.bool (neg ^^ false))
  | _ => none
/-- An interface value held against nil. -/
def rIsifc (neg : Bool) : List V → Option V
  | [.ifc b] => some (.bool (neg ^^ b))
  | _ => none
def rSidx : List V → Option V
  | [.str s, .int _ i] => if idxOk i s.length then (s[i.toNat]?).map fun b => .int .u8 b.toNat else none
  | _ => none
def rAidx (n sz : Nat) (ag : Bool) : List V → Option V
  | [.agg cs, .int _ i] => if idxOk i n = true ∧ n * sz ≤ cs.length then (if ag then some (.agg ((cs.drop (i.toNat * sz)).take sz)) else (cs[i.toNat * sz]?).map V.strip) else none
  | _ => none
def rIaddr (sz : Nat) : List V → Option V
  | [.list sz' xs _, .int _ i] => if sz = sz' ∧ idxOk i xs.length = true then (xs[i.toNat]?).map fun x => .cptr x.cells else none
  | [.slc l t o sz' n, .int _ i] => if sz = sz' ∧ idxOk i n = true then some (.ptr l t (o + i.toNat * sz)) else none
  | _ => none
def rIaddra (n sz : Nat) : List V → Option V
  | [.cptr cs, .int _ i] => if idxOk i n = true then some (.cptr (cs.drop (i.toNat * sz))) else none
  | [.ptr l t o, .int _ i] => if idxOk i n = true then some (.ptr l t (o + i.toNat * sz)) else none
  | _ => none
def rFaddr (off : Nat) : List V → Option V
  | [.cptr cs] => some (.cptr (cs.drop off))
  | [.ptr l t o] => some (.ptr l t (o + off))
  | _ => none
def rLoad (n : Option Nat) : List V → Option V
  | [.cptr cs] => loadV n cs
  | _ => none
def rSsl (lo hi : Bool) : List V → Option V
  | .str s :: r => (bounds s.length s.length lo hi r).map fun (a, b) => .str ((s.take b).drop a)
  | _ => none
def rLsl (sz : Nat) (lo hi mx : Bool) : List V → Option V
  | .list sz' xs _ :: r => if sz = sz' ∧ mx = false then (bounds xs.length xs.length lo hi r).map fun (a, b) => .list sz ((xs.take b).drop a) false else none
  | .slc l t o sz' n :: r => if sz = sz' ∧ mx = false then (bounds n n lo hi r).map fun (a, b) => .slc l t (o + a * sz) sz (b - a) else none
  | _ => none
def rSlen : List V → Option V
  | [.str s] => some (.int .i64 s.length)
  | _ => none
def rLlen : List V → Option V
  | [.list _ xs _] => some (.int .i64 xs.length)
  | [.slc _ _ _ _ n] => some (.int .i64 n)
  | _ => none
/-- A slice of no elements, and no room: s[:0:0]. -/
def rLsl0 (sz : Nat) : List V → Option V
  | [.list sz' _ _, .int _ 0, .int _ 0] => if sz = sz' then some (.list sz [] true) else none
  | _ => none
def rAppend (sz bytes : Nat) : List V → Option V
  | [.list sz1 xs true, .list sz2 ys _] =>
    if sz = sz1 ∧ sz = sz2 ∧ (xs.length + ys.length) * bytes ≤ 140737488355328 ∧ xs.length + ys.length ≤ 140737488355328 then some (.list sz (xs ++ ys) true) else none
  | [.full sz1 xs, .list sz2 ys _] =>
    if sz = sz1 ∧ sz = sz2 ∧ 0 < ys.length ∧ (xs.length + ys.length) * bytes ≤ 140737488355328 ∧ xs.length + ys.length ≤ 140737488355328 then some (.list sz (xs ++ ys) true) else none
  | [.list sz1 xs true, .emp sz2] => if sz = sz1 ∧ sz = sz2 ∧ xs.length * bytes ≤ 140737488355328 ∧ xs.length ≤ 140737488355328 then some (.list sz xs true) else none
  | _ => none
def byteV (b : UInt8) : V := .int .u8 b.toNat
def rAppends : List V → Option V
  | [.list 1 xs true, .str s] => if xs.length + s.length ≤ 140737488355328 then some (.list 1 (xs ++ s.map byteV) true) else none
  | _ => none
/-- []byte(b), of a row of bytes that is owned. -/
def rBoxc : List V → Option V
  | [x] => if data x then some (.cptr x.cells) else none
  | _ => none
/-- The one store into a variable that is only read from then on. -/
def rStorec (k : Nat) : List V → Option V
  | [.fptr n, x] => if n = k ∧ data x = true ∧ x.cells.length = n then some (.cptr x.cells) else none
  | _ => none
def rCvb : List V → Option V
  | [.list 1 (x :: xs) true] => some (.list 1 (x :: xs) true)
  | _ => none
def rS2b : List V → Option V
  | [.str s] => if s.length ≤ 16777216 then some (.list 1 (s.map byteV) true) else none
  | _ => none
def unbyte : List V → Option (List UInt8)
  | [] => some []
  | .int .u8 n :: r => (unbyte r).map fun s => n.toNat.toUInt8 :: s
  | _ => none
def rB2s : List V → Option V
  | [.list 1 xs _] => (unbyte xs).map .str
  | _ => none
def rExt (i : Nat) : List V → Option V
  | [.tup vs] => (vs[i]?).map V.strip
  | _ => none
def notTup : V → Option V
  | .tup _ => none
  | .fptr _ => none
  | v => some v
def rExtk (i : Nat) : List V → Option V
  | [.tup vs] => (vs[i]?).bind notTup
  | _ => none
def rFld (off : Nat) (n : Option Nat) : List V → Option V
  | [.agg cs] => loadV n (cs.drop off)
  | _ => none
def rBuild (zero : List V) (parts : List (Nat × Nat)) (xs : List V) : Option V :=
  if xs.all data then (fillV parts xs zero).map .agg else none
/-- A cell of a struct that is handed about by value: nothing in it is owned. -/
def sCell (v : V) : Bool := v.isOneCell && !v.isOwn
def partOk : V → Bool
  | .agg _ => true
  | .sagg _ => true
  | v => sCell v
def rBuilds (zero : List V) (parts : List (Nat × Nat)) (xs : List V) : Option V :=
  if xs.all partOk then (fillV parts xs zero).map .sagg else none
def rBslice (sz n : Nat) (zero : List V) (parts : List (Nat × Nat)) (xs : List V) : Option V :=
  if xs.all data then (fillV parts xs zero).map fun cs => .list sz (chunk sz n cs) true else none
/-- A slice as it is made: there is no room behind it. -/
def rBslicef (sz n : Nat) (zero : List V) (parts : List (Nat × Nat)) (xs : List V) : Option V :=
  if xs.all data then (fillV parts xs zero).map fun cs => .full sz (chunk sz n cs) else none
def rConvi (k : IntKind) : List V → Option V
  | [.int _ n] => some (.int k (k.wrap n))
  | _ => none
/-- A rune as a text. -/
def rI2s : List V → Option V
  | [.int _ n] => some (.str (Utf8.encode n).data.toList)
  | _ => none
def rMkf (fn : Fn) (nf : Nat) (xs : List V) : Option V := some (.func fn (xs.take nf) (xs.drop nf))
def rNilchk : List V → Option V
  | [.cptr cs] => some (.cptr cs)
  | [.ptr l t o] => some (.ptr l t o)
  | _ => none

/-- A whole array, that is never written again, as a slice. -/
def rAsl (n sz : Nat) : List V → Option V
  | [.cptr cs] => if 0 < sz ∧ cs.length = n * sz then some (.list sz (chunk sz n cs) false) else none
  | _ => none

/-- Operations that read no box. -/
def runP : Prim → List V → Option V
  | .mv => rMv
  | .pick => rPick
  | .bin op => rBin op
  | .un .not => rNot
  | .un .neg => rNeg
  | .beq neg => rBeq neg
  | .seq ks neg => rSeq ks neg
  | .isnil neg => rIsnil neg
  | .isnils neg => rIsnils neg
  | .isifc neg => rIsifc neg
  | .cvb => rCvb
  | .allocf n => fun xs => match xs with | [] => some (.fptr n) | _ => none
  | .boxc => rBoxc
  | .storec n => rStorec n
  | .loadc n => rLoad n
  | .sidx => rSidx
  | .aidx n sz ag => rAidx n sz ag
  | .iaddr sz => rIaddr sz
  | .iaddra n sz => rIaddra n sz
  | .faddr off => rFaddr off
  | .load n => rLoad n
  | .ssl lo hi => rSsl lo hi
  | .lsl sz lo hi mx => bif mx then rLsl0 sz else rLsl sz lo hi false
  | .slen => rSlen
  | .llen => rLlen
  | .append sz bytes => rAppend sz bytes
  | .appends => rAppends
  | .ext i => rExt i
  | .fld off n => rFld off n
  | .build zero parts => rBuild zero parts
  | .builds zero parts => rBuilds zero parts
  | .bslice sz n zero parts => rBslice sz n zero parts
  | .bslicef sz n zero parts => rBslicef sz n zero parts
  | .convi k => rConvi k
  | .i2s => rI2s
  | .mkf fn nf => rMkf fn nf
  | .nilchk => rNilchk
  | .asl n sz => rAsl n sz
  | .shf op => rShf op
  | .extk i => rExtk i
  | .s2b => rS2b
  | .b2s => rB2s
  | _ => fun _ => none

/-- Operations that read boxes. -/
def loadB : Option Nat → List V → Option V
  | none, cs => loadV none cs
  | some k, cs => (fun ds => if ds.length = k ∧ ds.all okc = true then some (.agg ds) else none) ((cs.take k).map V.strip1)
def rLoadB (n : Option Nat) : List V → Mem → Option V
  | [.ptr l t o], m => (mget m l t).bind fun cs => loadB n (cs.drop o)
  | _, _ => none
def keyEq : V → V → Bool
  | .str a, .str b => a == b
  | .int k a, .int k' b => decide (k = k') && a == b
  | _, _ => false
def findK : List V → List V → V → Option V
  | k :: ks, v :: vs, x => bif keyEq x k then some v else findK ks vs x
  | _, _, _ => none
def isKey : Option IntKind → V → Bool
  | none, .str _ => true
  | some k, .int k' _ => decide (k = k')
  | _, _ => false
def mapAns (ok : Bool) (zero : V) (r : Option V) : V :=
  match r with
  | some v => bif ok then .tup [v, .bool true] else v
  | none => bif ok then .tup [zero, .bool false] else zero
def rMget (kd : Option IntKind) (ok : Bool) (zero : V) : List V → Mem → Option V
  | [.mref t, x], m => (Ev.mget m 1 t).bind fun cs => match cs with
    | [.mapv kd' ks vs] => bif decide (kd' = kd) && isKey kd x then some (mapAns ok zero (findK ks vs x)) else none
    | _ => none
  | _, _ => none
def runR : Prim → List V → Mem → Option V
  | .load n => rLoadB n
  | .mget kd ok zero => rMget kd ok zero
  | _ => fun _ _ => none

/-- 0: reads no box; 1: reads; 2: all else; 3: a call that is handed no memory. -/
def Prim.kind : Prim → Nat
  | .load _ => 1
  | .mget .. => 1
  | .anew _ => 2
  | .abox => 2
  | .loadk => 2
  | .mkmap _ => 2
  | .mset _ => 2
  | .mkrow .. => 2
  | .copyb _ => 2
  | .rng => 2
  | .nxt => 2
  | .store _ => 2
  | .alloc _ => 2
  | .box => 2
  | .call _ => 2
  | .callv => 2
  | .callt _ => 2
  | .callp _ => 3
  | _ => 0

def dataCell (l : Nat) : V → Bool
  | .ptr l' _ _ => Nat.ble l' l
  | .slc l' _ _ _ _ => Nat.ble l' l
  | .func _ f c => f.isEmpty && c.isEmpty
  | .junk => false
  | .undef => false
  | .fptr _ => false
  | .agg _ => false
  | .sagg _ => false
  | .tup _ => false
  | .mapv .. => false
  | .siter .. => false
  | _ => true
/-- A cell of a box as it is new: nothing in it is owned. -/
def newCell (l : Nat) (v : V) : Bool := dataCell l v && !v.isOwn

def rStore (n : Nat) : Option Nat → List V → Mem → Option (V × Mem)
  | none, [.ptr l t o, x], m =>
    (mget m l t).bind fun cs =>
      if x.cells.length = n ∧ o + n ≤ cs.length ∧ x.cells.all (dataCell l) = true then some (.undef, mput m l t (spliceAt o x.cells cs)) else none
  | _, _, _ => none
/-- Rows that are nil as a box is new are owned by it. -/
def ownE : V → V
  | .nils sz => .list sz [] true
  | v => v
/-- A new box of the innermost frame, under the slot's number. -/
def newBox (cs : List V) : Option Nat → Mem → Option (V × Mem)
  | some d, b :: m =>
    match bget b d with
    | none => if cs.all (newCell m.length) then some (.ptr m.length d 0, bput b d (cs.map ownE) :: m) else none
    | some _ => none
  | _, _ => none
def rBox : Option Nat → List V → Mem → Option (V × Mem)
  | d, [x], m => newBox x.cells d m
  | _, _, _ => none
def rAlloc (zero : List V) : Option Nat → List V → Mem → Option (V × Mem)
  | d, [], m => newBox zero d m
  | _, _, _ => none
def newAt (l : Nat) (cs : List V) (m : Mem) : Option (V × Mem) :=
  if cs.all (newCell 0) then (mnew l (cs.map ownE) m).map fun (k, m') => (.ptr l k 0, m') else none
def rAbox : List V → Mem → Option (V × Mem)
  | [x], m => newAt 0 x.cells m
  | _, _ => none
def rAnew (zero : List V) : List V → Mem → Option (V × Mem)
  | [], m => newAt 0 zero m
  | _, _ => none
/-- What stands in a box's cell, and is owned there, is taken. -/
def rLoadk : List V → Mem → Option (V × Mem)
  | [.ptr l t o], m => (Ev.mget m l t).bind fun cs => (cs[o]?).map fun v => (v, mput m l t (cs.set o v.strip1))
  | _, _ => none
def rMkmap (kd : Option IntKind) : List V → Mem → Option (V × Mem)
  | [], m => (mnew 1 [.mapv kd [] []] m).map fun (k, m') => (.mref k, m')
  | _, _ => none
def setK : List V → List V → V → V → List V × List V
  | k :: ks, v :: vs, x, y => bif keyEq x k then (k :: ks, y :: vs) else ((fun p => (k :: p.1, v :: p.2)) (setK ks vs x y))
  | ks, vs, x, y => (ks ++ [x], vs ++ [y])
def rMset (kd : Option IntKind) : List V → Mem → Option (V × Mem)
  | [.mref t, x, y], m => (Ev.mget m 1 t).bind fun cs => match cs with
    | [.mapv kd' ks vs] => if kd' = kd ∧ isKey kd x = true ∧ data y = true then some (.undef, mput m 1 t [(fun p => .mapv kd p.1 p.2) (setK ks vs x y)]) else none
    | _ => none
  | _, _ => none
/-- make([]T, n): a row of the frame's. -/
def rMkrow (sz bytes : Nat) (zero : List V) : Option Nat → List V → Mem → Option (V × Mem)
  | some d, [.int .i64 n, .int .i64 c], b :: m =>
    if 0 ≤ n ∧ c = n ∧ n * bytes ≤ 140737488355328 ∧ n * sz ≤ 140737488355328 then
      match bget b d with
      | none => if zero.all (newCell m.length) then some (.slc m.length d 0 sz n.toNat, bput b d (List.replicate n.toNat zero).flatten :: m) else none
      | some _ => none
    else none
  | _, _, _ => none
/-- copy(a row, a list). -/
def rCopyb (sz : Nat) : List V → Mem → Option (V × Mem)
  | [.slc l t o sz' n, .list sz2 xs _], m =>
    (Ev.mget m l t).bind fun cs => if sz = sz' ∧ sz = sz2 ∧ o + n * sz ≤ cs.length ∧ (flat (xs.take n)).all (dataCell l) = true then some (.int .i64 (min xs.length n : Nat), mput m l t (spliceAt o (flat (xs.take n)) cs)) else none
  | _, _ => none
def rRng : List V → Mem → Option (V × Mem)
  | [.str s], m => (mnew 1 [.siter s 0] m).map fun (k, m') => (.iref k, m')
  | _, _ => none
def rNxt : List V → Mem → Option (V × Mem)
  | [.iref t], m => (Ev.mget m 1 t).bind fun cs => match cs with
    | [.siter s pos] =>
      if pos < s.length then
        let d := Utf8.decode ⟨s.toArray⟩ pos
        some (.tup [.bool true, .int .i64 pos, .int .i32 d.1], mput m 1 t [.siter s (pos + d.2)])
      else some (.tup [.bool false], m)
    | _ => none
  | _, _ => none
def rCall (call : CallF) (f : Nat) (xs : List V) (m : Mem) : Option (V × Mem) := call f xs m
def rCallv (call : CallF) : List V → Mem → Option (V × Mem)
  | .func (.func f) first cap :: xs, m => call f (first ++ xs ++ cap) m
  | _, _ => none

def deepLocal : V → Bool
  | .tup vs => vs.any isLocal
  | v => isLocal v
/-- A call that is handed no pointer, and no memory. -/
def rCallp (call : CallF) (f : Nat) (xs : List V) : Option V :=
  if xs.all (fun v => !isLocal v) then (call f xs [[], []]).bind fun (v, _) => if deepLocal v then none else some v else none
/-- What bears no knowledge of memory. -/
def scalar : V → Bool
  | .int .. => true
  | .bool _ => true
  | .str _ => true
  | _ => false
/-- A result whose first part is an owned row: the row becomes a box of the innermost frame's, under the slot's number. -/
def thaw (d : Option Nat) (v : V) (m : Mem) : V × Mem :=
  match v, d, m with
  | .tup (.list sz xs true :: q), some d, b :: m' =>
    if (!xs.isEmpty && xs.all scalar && q.all scalar && decide (sz = 1) && (bget b d).isNone) = true then (.tup (.slc m'.length d 0 1 xs.length :: q), bput b d xs :: m') else (v, m)
  | _, _, _ => (v, m)
def rCallt (call : CallF) (f : Nat) (d : Option Nat) (xs : List V) (m : Mem) : Option (V × Mem) := (rCallp call f xs).map fun v => thaw d v m

/-- Operations that write boxes, or may. -/
def runW (call : CallF) : Prim → Option Nat → List V → Mem → Option (V × Mem)
  | .store n => rStore n
  | .alloc zero => rAlloc zero
  | .box => rBox
  | .call f => fun _ => rCall call f
  | .callv => fun _ => rCallv call
  | .callt f => rCallt call f
  | .anew zero => fun _ => rAnew zero
  | .abox => fun _ => rAbox
  | .loadk => fun _ => rLoadk
  | .mkmap kd => fun _ => rMkmap kd
  | .mset kd => fun _ => rMset kd
  | .mkrow sz bytes zero => rMkrow sz bytes zero
  | .copyb sz => fun _ => rCopyb sz
  | .rng => fun _ => rRng
  | .nxt => fun _ => rNxt
  | _ => fun _ _ _ => none

def runC (call : CallF) : Prim → List V → Option V
  | .callp f => rCallp call f
  | _ => fun _ => none

def Prim.run (call : CallF) (p : Prim) (dst : Option Nat) (xs : List V) (m : Mem) : Option (V × Mem) :=
  match p.kind with
  | 0 => (runP p xs).map fun v => (v, m)
  | 1 => match runP p xs with
    | some v => some (v, m)
    | none => (runR p xs m).map fun v => (v, m)
  | 3 => (runC call p xs).map fun v => (v, m)
  | _ => runW call p dst xs m

def readArg (e : Env) : AArg → V
  | .t n => (get e n).strip
  | .k n => get e n
  | .c v => v

def stripTakes (e : Env) : List AArg → Env
  | [] => e
  | .k n :: r => stripTakes (put e n (get e n).strip) r
  | _ :: r => stripTakes e r

def putO (e : Env) (d : Option Nat) (v : V) : Env :=
  match d with
  | some t => put e t v
  | none => e

def AOp.exec (call : CallF) (o : AOp) (s : St) : Option St :=
  (o.pr.run call o.dst (o.args.map (readArg s.env)) s.mem).map fun (v, m) => { env := putO (stripTakes s.env o.args) o.dst v, mem := m }

def evOp (call : CallF) (o : AOp) (s : St) : Option St :=
  match o.g with
  | none => o.exec call s
  | some (g, b) =>
    match get s.env g with
    | .bool c => bif c == b then o.exec call s else some { s with env := putO s.env o.dst .undef }
    | .undef => some { s with env := putO s.env o.dst .undef }
    | _ => none

def evOps (call : CallF) : List AOp → St → Option St
  | [], s => some s
  | o :: r, s => (evOp call o s).bind (evOps call r)

def eraseAll : List Nat → Env → Env
  | [], e => e
  | t :: r, e => eraseAll r (erase e t)

def pointsTo (l t : Nat) : V → Bool
  | .ptr l' t' _ => Nat.beq l' l && Nat.beq t' t
  | .slc l' t' _ _ _ => Nat.beq l' l && Nat.beq t' t
  | .tup vs => vs.any isLocal
  | .sagg vs => vs.any isLocal
  | .func _ f c => !f.isEmpty || !c.isEmpty
  | _ => false

/-- No slot, and no box, points into box t of the innermost frame. -/
def unpointed (t : Nat) (s : St) : Bool :=
  match s.mem with
  | [] => false
  | b :: m => s.env.all (fun p => !pointsTo m.length t p.2) && b.all (fun p => p.2.all fun v => !pointsTo m.length t v)

/-- A row that is box t of level l, whole: as it stands. -/
def frz1 (l t : Nat) (cs : List V) : V → Option V
  | .slc l' t' o sz n => if l' = l ∧ t' = t then (if o = 0 ∧ sz = 1 ∧ n = cs.length then some (.list 1 cs false) else none) else some (.slc l' t' o sz n)
  | v => if pointsTo l t v then none else some v
def frzE (l t : Nat) (cs : List V) : Env → Option Env
  | [] => some []
  | (k, v) :: r => (frz1 l t cs v).bind fun v' => (frzE l t cs r).map fun r' => (k, v') :: r'
/-- Box t of the innermost frame, whose cells bear no knowledge, becomes known as it stands; rows that were it are lists. -/
def freeze (t : Nat) (s : St) : Option St :=
  match s.mem with
  | [] => none
  | b :: m => match bget b t with
    | none => none
    | some cs => if cs.all scalar && b.all (fun p => p.2.all fun v => !pointsTo m.length t v) then (frzE m.length t cs s.env).map fun e => { env := e, mem := berase b t :: m } else none
def dropAll : List Nat → St → Option St
  | [], s => some s
  | t :: r, s =>
    if unpointed t s then dropAll r { s with mem := match s.mem with | [] => [] | b :: m => berase b t :: m } else (freeze t s).bind (dropAll r)

def findL : ACode → Nat → Option ACode
  | .seq a b, l =>
    match findL a l with
    | some rest => some (.seq rest b)
    | none => findL b l
  | .label l', l => if l' == l then some .skip else none
  | .clr _ _ b, l => findL b l
  | _, _ => none

abbrev Res := Option (AExit × St)

def iterL (f : St → Res) : Nat → St → Res
  | 0, _ => none
  | n + 1, s => (f s).bind fun (e, s') => match e with
    | .normal => iterL f n s'
    | e => some (e, s')

/-- Jumps inside a scope: 'rest l' is what stands behind label l. -/
def iterS (run : Nat → St → Option Res) : Nat → Res → Res
  | 0, _ => none
  | n + 1, r => r.bind fun (e, s') => match e with
    | .goto l => (run l s').bind fun r' => iterS run n r'
    | e => some (e, s')

def blockExit (id : Nat) (p : AExit × St) : Res :=
  match p.1 with
  | .exit id' => if id' = id then some (.normal, p.2) else some p
  | _ => some p

/-- Operations in another order. -/
def pickOps (l : List AOp) (alt : List Nat) : List AOp := alt.filterMap fun i => l[i]?
open Classical in
/-- A region whose order is open: in all these orders it gives the same. -/
noncomputable def evOpsD (call : CallF) (l : List AOp) (alts : List (List Nat)) (s : St) : Option St :=
  (evOps call l s).bind fun s' => if ∀ alt ∈ alts, evOps call (pickOps l alt) s = some s' then some s' else none

/-- Code; the fuel is spent on rounds and jumps alone ('d': how deep scopes may be looked into behind a jump). -/
noncomputable def evC (call : CallF) (fuel : Nat) : Nat → ACode → St → Res
  | 0, _, _ => none
  | _ + 1, .skip, s => some (.normal, s)
  | _ + 1, .ops l cl dr, s => (evOps call l s).bind fun s' => (dropAll dr { s' with env := eraseAll cl s'.env }).map fun s'' => (.normal, s'')
  | _ + 1, .opsd l _ alts cl dr, s => (evOpsD call l alts s).bind fun s' => (dropAll dr { s' with env := eraseAll cl s'.env }).map fun s'' => (.normal, s'')
  | d + 1, .seq a b, s => (evC call fuel d a s).bind fun (e, s') => match e with
    | .normal => evC call fuel d b s'
    | e => some (e, s')
  | d + 1, .cond c a b, s => match readArg s.env c with
    | .bool t => bif t then evC call fuel d a s else evC call fuel d b s
    | _ => none
  | d + 1, .block id b, s => (evC call fuel d b s).bind (blockExit id)
  | d + 1, .loop b, s => iterL (evC call fuel d b) fuel s
  | _ + 1, .exit id, s => some (.exit id, s)
  | d + 1, .scope b, s => iterS (fun l s' => (findL b l).map fun rest => evC call fuel d rest s') fuel (evC call fuel d b s)
  | _ + 1, .label _, s => some (.normal, s)
  | _ + 1, .goto l, s => some (.goto l, s)
  | _ + 1, .ret, s => some (.ret, s)
  | d + 1, .clr cl dr b, s => (dropAll dr { s with env := eraseAll cl s.env }).bind (evC call fuel d b)

/-- A result: a slot ('k': with what it owns), what stands in the box to which a slot points, what is owned in its cell, a row of the frame's (from then on kept). -/
inductive ARes where
  | a (x : AArg)
  | b (t : Nat) (n : Option Nat)
  | bk (t : Nat)
  | z (t : Nat)
  deriving Inhabited

structure AFunc where
  nparams : Nat
  body : ACode
  results : List ARes
  deriving Inhabited

def initEnv : Nat → List V → Env
  | _, [] => []
  | i, x :: r => (i, x.strip) :: initEnv (i + 1) r

/-- A result: a slot, or what stands in the box to which a slot points. -/
def resOne (s : St) : ARes → Option V
  | .a (.k t) => notTup (get s.env t)
  | .a x => some (readArg s.env x).strip
  | .bk t => match get s.env t with
    | .ptr l k o => (mget s.mem l k).bind fun cs => if l + 1 = s.mem.length then cs[o]? else none
    | _ => none
  | .z t => match get s.env t with
    | .slc l k 0 sz n => (mget s.mem l k).bind fun cs => if 0 < sz ∧ cs.length = n * sz ∧ l + 1 = s.mem.length ∧ cs.all okc = true then some (.list sz (chunk sz n cs) true) else none
    | _ => none
  | .b t n => match get s.env t with
    | .ptr l k o => (mget s.mem l k).bind fun cs => loadB n (cs.drop o)
    | _ => none

def resAll (s : St) : List ARes → Option (List V)
  | [] => some []
  | r :: rs => (resOne s r).bind fun v => (resAll s rs).map fun vs => v :: vs

def resultOf (s : St) (l : List ARes) : Option V :=
  (resAll s l).map fun vs => match vs with
    | [v] => v
    | vs => .tup vs

def noPtr1 (l : Nat) : V → Bool
  | .ptr l' _ _ => Nat.blt l' l
  | .slc l' _ _ _ _ => Nat.blt l' l
  | .func _ f c => f.isEmpty && c.isEmpty
  | .junk => false
  | .undef => false
  | .fptr _ => false
  | .tup _ => false
  | .sagg _ => false
  | .mapv .. => false
  | .siter .. => false
  | _ => true

def noPtr (l : Nat) : V → Bool
  | .tup vs => vs.all (noPtr1 l)
  | v => noPtr1 l v

def finish (f : AFunc) : AExit × St → Option (V × Mem)
  | (.normal, s) | (.ret, s) =>
    match s.mem with
    | [] => none
    | _ :: m => (resultOf s f.results).bind fun v => if noPtr m.length v then some (v, m) else none
  | _ => none

noncomputable def evF (A : Nat → Option AFunc) (prim : CallF) : Nat → CallF
  | 0 => fun _ _ _ => none
  | n + 1 => fun f xs m =>
    match A f with
    | none => prim f xs m
    | some af => if xs.length = af.nparams then (evC (evF A prim n) n n af.body { env := initEnv 0 xs, mem := [] :: m }).bind (finish af) else none

end Go.Proofs.YtpmpofcokkgfdaaGreatDoor.Ev
