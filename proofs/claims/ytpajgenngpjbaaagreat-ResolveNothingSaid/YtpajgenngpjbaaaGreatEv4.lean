import Derived.Calls
import Derived.Orders
import Derived.ScopeJumps
import Derived.Laws.AppendOwn
import Derived.Tactics
import Derived.Laws.Strings
import Derived.Laws.Runes
/- The evaluator's values, environments and memories: plain definitions, no program in sight. -/
namespace Go.Proofs.YtpajgenngpjbaaaGreat.Ev
open Go

/-- Values: slices by value ('own': nobody else counts on what stands behind its length), structs and arrays as rows of cells ('sagg': some of which point to boxes),
pointers into boxes of frames that stand (level, box, place; level 0: boxes that outlive their frame), pointers to rows that are never written again ('cptr'),
slices of a box's row ('slc'), maps (objects of level 1), slices behind whose length there is no room ('full'). -/
inductive V where
  | junk
  | undef
  | bool (b : Bool)
  | int (k : IntKind) (n : Int)
  | str (s : List UInt8)
  | fl (k : FloatKind) (bits : Nat)
  | cx (k : FloatKind) (re im : Nat)
  | list (sz : Nat) (xs : List V) (own : Bool)
  | agg (cs : List V)
  | sagg (cs : List V)
  | tup (vs : List V)
  | nilp
  | ptr (l t off : Nat)
  | cptr (cs : List V)
  | func (fn : Fn) (first captured : List V)
  | nilf
  | slc (l t off sz len : Nat)
  | mref (t : Nat)
  | mnil
  | ifc (isNil : Bool)
  | nils (sz : Nat)
  | emp (sz : Nat)
  | fptr (n : Nat)
  | iref (t : Nat)
  | mapv (kd : Option IntKind) (ks vs : List V)
  | siter (s : List UInt8) (pos : Nat)
  | full (sz : Nat) (xs : List V)
  deriving Inhabited

def V.strip1 : V → V
  | .list sz xs _ => .list sz xs false
  | .full sz xs => .list sz xs false
  | .fptr _ => .junk
  | v => v

def V.strip : V → V
  | .list sz xs _ => .list sz xs false
  | .full sz xs => .list sz xs false
  | .tup vs => .tup (vs.map V.strip1)
  | .fptr _ => .junk
  | v => v

def V.cells : V → List V
  | .agg cs => cs
  | .sagg cs => cs
  | v => [v]

def flat : List V → List V
  | [] => []
  | x :: r => x.cells ++ flat r

abbrev Env := List (Nat × V)

def get : Env → Nat → V
  | [], _ => .junk
  | (s, v) :: r, t => bif Nat.beq s t then v else get r t

def put : Env → Nat → V → Env
  | [], t, v => [(t, v)]
  | (s, u) :: r, t, v => bif Nat.beq s t then (t, v) :: r else bif Nat.blt t s then (t, v) :: (s, u) :: r else (s, u) :: put r t v

def erase : Env → Nat → Env
  | [], _ => []
  | (s, u) :: r, t => bif Nat.beq s t then erase r t else (s, u) :: erase r t

theorem beq_ne {s t : Nat} (h : s ≠ t) : Nat.beq s t = false := by
  rw [← Bool.not_eq_true, Nat.beq_eq]; exact h

theorem get_put (e : Env) (t : Nat) (v : V) (s : Nat) : get (put e t v) s = if s = t then v else get e s := by
  induction e with
  | nil =>
    simp only [put, get]
    by_cases h : s = t
    · subst h; simp
    · rw [beq_ne (Ne.symm h), if_neg h]; rfl
  | cons p r ih =>
    obtain ⟨q, u⟩ := p
    simp only [put]
    by_cases hq : q = t
    · subst hq
      simp only [Nat.beq_refl, cond_true, get]
      by_cases h : s = q
      · subst h; simp
      · rw [beq_ne (Ne.symm h), if_neg h]; rfl
    · rw [beq_ne hq]
      simp only [cond_false]
      cases hb : Nat.blt t q
      · simp only [cond_false, get, ih]
        by_cases h : q = s
        · subst h; simp [hq]
        · rw [beq_ne h]; rfl
      · simp only [cond_true, get]
        by_cases h : s = t
        · subst h; simp
        · rw [beq_ne (Ne.symm h), if_neg h]; rfl

theorem get_erase (e : Env) (t s : Nat) : get (erase e t) s = if s = t then .junk else get e s := by
  induction e with
  | nil => simp [erase, get]
  | cons p r ih =>
    obtain ⟨q, u⟩ := p
    simp only [erase]
    by_cases hq : q = t
    · subst hq
      simp only [Nat.beq_refl, cond_true, get, ih]
      by_cases h : s = q
      · subst h; simp
      · rw [if_neg h, if_neg h, beq_ne (Ne.symm h)]; rfl
    · rw [beq_ne hq]
      simp only [cond_false, get, ih]
      by_cases h : q = s
      · subst h; simp [hq]
      · rw [beq_ne h]; rfl

/-- A frame's boxes. -/
abbrev Boxes := List (Nat × List V)

def bget : Boxes → Nat → Option (List V)
  | [], _ => none
  | (s, v) :: r, t => bif Nat.beq s t then some v else bget r t

def bput : Boxes → Nat → List V → Boxes
  | [], t, v => [(t, v)]
  | (s, u) :: r, t, v => bif Nat.beq s t then (t, v) :: r else bif Nat.blt t s then (t, v) :: (s, u) :: r else (s, u) :: bput r t v

def berase : Boxes → Nat → Boxes
  | [], _ => []
  | (s, u) :: r, t => bif Nat.beq s t then berase r t else (s, u) :: berase r t

theorem bget_bput (e : Boxes) (t : Nat) (v : List V) (s : Nat) : bget (bput e t v) s = if s = t then some v else bget e s := by
  induction e with
  | nil =>
    simp only [bput, bget]
    by_cases h : s = t
    · subst h; simp
    · rw [beq_ne (Ne.symm h), if_neg h]; rfl
  | cons p r ih =>
    obtain ⟨q, u⟩ := p
    simp only [bput]
    by_cases hq : q = t
    · subst hq
      simp only [Nat.beq_refl, cond_true, bget]
      by_cases h : s = q
      · subst h; simp
      · rw [beq_ne (Ne.symm h), if_neg h]; rfl
    · rw [beq_ne hq]
      simp only [cond_false]
      cases hb : Nat.blt t q
      · simp only [cond_false, bget, ih]
        by_cases h : q = s
        · subst h; simp [hq]
        · rw [beq_ne h]; rfl
      · simp only [cond_true, bget]
        by_cases h : s = t
        · subst h; simp
        · rw [beq_ne (Ne.symm h), if_neg h]; rfl

theorem bget_berase (e : Boxes) (t s : Nat) : bget (berase e t) s = if s = t then none else bget e s := by
  induction e with
  | nil => simp [berase, bget]
  | cons p r ih =>
    obtain ⟨q, u⟩ := p
    simp only [berase]
    by_cases hq : q = t
    · subst hq
      simp only [Nat.beq_refl, cond_true, bget, ih]
      by_cases h : s = q
      · subst h; simp
      · rw [if_neg h, if_neg h, beq_ne (Ne.symm h)]; rfl
    · rw [beq_ne hq]
      simp only [cond_false, bget, ih]
      by_cases h : q = s
      · subst h; simp [hq]
      · rw [beq_ne h]; rfl

/-- The frames' boxes, the innermost frame first; a frame's level is how many stand under it. -/
abbrev Mem := List Boxes

def mget : Mem → Nat → Nat → Option (List V)
  | [], _, _ => none
  | b :: m, l, t => bif Nat.beq l m.length then bget b t else mget m l t

def mput : Mem → Nat → Nat → List V → Mem
  | [], _, _, _ => []
  | b :: m, l, t, v => bif Nat.beq l m.length then bput b t v :: m else b :: mput m l t v

theorem mput_length (m : Mem) (l t : Nat) (v : List V) : (mput m l t v).length = m.length := by
  induction m with
  | nil => rfl
  | cons b m ih => simp only [mput]; cases Nat.beq l m.length <;> simp [ih]

theorem mget_none (m : Mem) (l t : Nat) (h : m.length ≤ l) : mget m l t = none := by
  induction m with
  | nil => rfl
  | cons b m ih =>
    simp only [mget]
    rw [beq_ne (by simp at h; omega)]
    exact ih (by simp at h; omega)

theorem mget_mput (m : Mem) (l t : Nat) (v : List V) (l' t' : Nat) (h : l < m.length) :
    mget (mput m l t v) l' t' = if l' = l ∧ t' = t then some v else mget m l' t' := by
  induction m with
  | nil => simp at h
  | cons b m ih =>
    simp only [mput]
    by_cases hl : l = m.length
    · subst hl
      simp only [Nat.beq_refl, cond_true, mget]
      by_cases h' : l' = m.length
      · subst h'; simp [bget_bput]
      · rw [beq_ne h']; simp [h']
    · rw [beq_ne hl]
      have hlt : l < m.length := by simp at h; omega
      simp only [cond_false, mget, mput_length]
      by_cases h' : l' = m.length
      · subst h'; simp [Ne.symm hl]
      · rw [beq_ne h']; exact ih hlt

/-- A new box of the level 0 (objects: of the level 1), under the next number. -/
def mnew : Nat → List V → Mem → Option (Nat × Mem)
  | _, _, [] => none
  | l, cs, b :: m =>
    bif Nat.beq l m.length then
      match bget b b.length with
      | none => some (b.length, (b ++ [(b.length, cs)]) :: m)
      | some _ => none
    else (mnew l cs m).map fun (k, m') => (k, b :: m')

theorem bget_append (e : Boxes) (t : Nat) (v : List V) (s : Nat) (h : bget e t = none) : bget (e ++ [(t, v)]) s = if s = t then some v else bget e s := by
  induction e with
  | nil =>
    simp only [List.nil_append, bget]
    by_cases hs : s = t
    · subst hs; simp
    · rw [beq_ne (Ne.symm hs), if_neg hs]; rfl
  | cons p r ih =>
    obtain ⟨q, u⟩ := p
    simp only [bget] at h
    simp only [List.cons_append, bget]
    by_cases hq : q = t
    · subst hq; simp at h
    · rw [beq_ne hq] at h
      by_cases hqs : q = s
      · subst hqs; simp [hq]
      · rw [beq_ne hqs]; exact ih h

theorem mnew_spec {l : Nat} {cs : List V} : ∀ {m : Mem} {k : Nat} {m' : Mem}, mnew l cs m = some (k, m') →
    l < m.length ∧ m'.length = m.length ∧ mget m l k = none ∧ ∀ l' t', mget m' l' t' = if l' = l ∧ t' = k then some cs else mget m l' t'
  | [], k, m', h => by cases h
  | b :: m, k, m', h => by
    unfold mnew at h
    by_cases hl : l = m.length
    · subst hl
      simp only [Nat.beq_refl, cond_true] at h
      split at h
      · rename_i hb
        injection h with h; injection h with h1 h2
        subst h1 h2
        refine ⟨by simp, by simp, by simp [mget, hb], fun l' t' => ?_⟩
        simp only [mget]
        by_cases h' : l' = m.length
        · subst h'; simp [bget_append _ _ _ _ hb]
        · rw [beq_ne h']; simp [h']
      · cases h
    · rw [beq_ne hl] at h
      simp only [cond_false] at h
      obtain ⟨⟨k', m1⟩, h1, h2⟩ := Option.map_eq_some_iff.1 h
      injection h2 with e1 e2
      subst e1 e2
      obtain ⟨i1, i2, i3, i4⟩ := mnew_spec h1
      refine ⟨by simp; omega, by simp [i2], by simp only [mget]; rw [beq_ne hl]; exact i3, fun l' t' => ?_⟩
      simp only [mget, i2]
      by_cases h' : l' = m.length
      · subst h'; simp [Ne.symm hl]
      · rw [beq_ne h']; exact i4 l' t'

structure St where
  env : Env
  mem : Mem
  deriving Inhabited

end Go.Proofs.YtpajgenngpjbaaaGreat.Ev

/- The evaluator: operations on values, code, functions; the limit over fuel, and its equations. No program in sight. -/
namespace Go.Proofs.YtpajgenngpjbaaaGreat.Ev
open Go

inductive AArg where
  | t (n : Nat)
  | k (n : Nat)
  | c (v : V)
  deriving Inhabited

inductive Prim where
  | mv | pick
  | bin (op : BinOp)
  | un (op : UnOp)
  | beq (neg : Bool)
  | seq (ks : List Nat) (neg : Bool)
  | isnil (neg : Bool)
  | isnils (neg : Bool)
  | isifc (neg : Bool)
  | cvb
  | allocf (n : Nat)
  | boxc
  | storec (n : Nat)
  | loadc (n : Option Nat)
  | sidx
  | aidx (n sz : Nat) (ag : Bool)
  | iaddr (sz : Nat)
  | iaddra (n sz : Nat)
  | faddr (off : Nat)
  | load (n : Option Nat)
  | store (n : Nat)
  | ssl (lo hi : Bool)
  | lsl (sz : Nat) (lo hi mx : Bool)
  | slen | llen
  | append (sz bytes : Nat)
  | appends
  | call (f : Nat)
  | callp (f : Nat)
  | callt (f : Nat)
  | callv
  | ext (i : Nat)
  | fld (off : Nat) (n : Option Nat)
  | build (zero : List V) (parts : List (Nat × Nat))
  | builds (zero : List V) (parts : List (Nat × Nat))
  | bslice (sz n : Nat) (zero : List V) (parts : List (Nat × Nat))
  | bslicef (sz n : Nat) (zero : List V) (parts : List (Nat × Nat))
  | alloc (zero : List V)
  | box
  | convi (k : IntKind)
  | i2s
  | s2b | b2s
  | shf (op : BinOp)
  | anew (zero : List V)
  | abox
  | loadk
  | extk (i : Nat)
  | mkmap (kd : Option IntKind)
  | mget (kd : Option IntKind) (ok : Bool) (zero : V)
  | mset (kd : Option IntKind)
  | mkrow (sz bytes : Nat) (zero : List V)
  | copyb (sz : Nat)
  | arow (sz n : Nat) (zero : List V) (parts : List (Nat × Nat))
  | appb (sz bytes : Nat)
  | callf (f : Nat)
  | callz (f : Nat)
  | loadf (n : Nat)
  | rng | nxt
  | mkf (fn : Fn) (nf : Nat)
  | nilchk
  | asl (n sz : Nat)
  deriving Inhabited

structure AOp where
  dst : Option Nat
  g : Option (Nat × Bool) := none
  args : List AArg
  pr : Prim
  deriving Inhabited

inductive ACode where
  | skip
  | ops (l : List AOp) (clear drops : List Nat)
  | opsd (l : List AOp) (D : List Nat) (alts : List (List Nat)) (clear drops : List Nat)
  | seq (a b : ACode)
  | cond (c : AArg) (a b : ACode)
  | block (id : Nat) (b : ACode)
  | loop (b : ACode)
  | exit (id : Nat)
  | scope (b : ACode)
  | label (l : Nat)
  | goto (l : Nat)
  | ret
  | clr (cl dr : List Nat) (b : ACode)
  deriving Inhabited

inductive AExit where
  | normal
  | exit (id : Nat)
  | goto (l : Nat)
  | ret
  deriving Inhabited, DecidableEq

/-- What a call answers: a value, and the memory of the frames under it. -/
abbrev CallF := Nat → List V → Mem → Option (V × Mem)

def intBin (op : BinOp) (k : IntKind) (a b : Int) : Option V :=
  match op with
  | .add => some (.int k (k.wrap (a + b)))
  | .sub => some (.int k (k.wrap (a - b)))
  | .mul => some (.int k (k.wrap (a * b)))
  | .eql => some (.bool (a == b))
  | .neq => some (.bool (a != b))
  | .lss => some (.bool (decide (a < b)))
  | .leq => some (.bool (decide (a ≤ b)))
  | .gtr => some (.bool (decide (a > b)))
  | .geq => some (.bool (decide (a ≥ b)))
  | .quo => if b = 0 then none else some (.int k (k.wrap (a.tdiv b)))
  | .rem => if b = 0 then none else some (.int k (a.tmod b))
  | .and => some (.int k (k.wrap ((BitVec.ofInt k.bits a &&& BitVec.ofInt k.bits b).toNat : Int)))
  | .or => some (.int k (k.wrap ((BitVec.ofInt k.bits a ||| BitVec.ofInt k.bits b).toNat : Int)))
  | .xor => some (.int k (k.wrap ((BitVec.ofInt k.bits a ^^^ BitVec.ofInt k.bits b).toNat : Int)))
  | .andNot => some (.int k (k.wrap ((BitVec.ofInt k.bits a &&& ~~~ BitVec.ofInt k.bits b).toNat : Int)))
  | _ => none

def strBin (op : BinOp) (a b : List UInt8) : Option V :=
  match op with
  | .add => if a.length + b.length ≤ 9223372036854775807 then some (.str (a ++ b)) else none
  | .eql => some (.bool (a == b))
  | .neq => some (.bool (!(a == b)))
  | .lss => some (.bool (Op.bytesLess a b))
  | .leq => some (.bool (Op.bytesLess a b || a == b))
  | .gtr => some (.bool (!(Op.bytesLess a b || a == b)))
  | .geq => some (.bool (!(Op.bytesLess a b)))
  | _ => none

/-- Fields that are compared as they are: integers (0), strings (1), bools (2). -/
def cellEq : Nat → V → V → Option Bool
  | 0, .int k a, .int k' b => if k = k' then some (a == b) else none
  | 1, .str a, .str b => some (a == b)
  | 2, .bool a, .bool b => some (a == b)
  | _, _, _ => none

def cellsEq : List Nat → List V → List V → Option Bool
  | [], [], [] => some true
  | n :: ns, a :: r, b :: s => (cellEq n a b).bind fun e => bif e then cellsEq ns r s else some false
  | _, _, _ => none

def idxOk (i : Int) (n : Nat) : Bool := decide (0 ≤ i) && decide (i < (n : Int))

def asI : V → Option Int
  | .int _ i => some i
  | _ => none

/-- The bounds of a slice expression: from, to. -/
def bounds (len cap : Nat) : Bool → Bool → List V → Option (Nat × Nat)
  | false, false, [] => some (0, len)
  | true, false, [.int _ a] => if 0 ≤ a ∧ a ≤ (len : Int) then some (a.toNat, len) else none
  | false, true, [.int _ b] => if 0 ≤ b ∧ b ≤ (cap : Int) then some (0, b.toNat) else none
  | true, true, [.int _ a, .int _ b] => if 0 ≤ b ∧ b ≤ (cap : Int) ∧ 0 ≤ a ∧ a ≤ b then some (a.toNat, b.toNat) else none
  | _, _, _ => none

def spliceAt (off : Nat) (new : List V) (cs : List V) : List V := cs.take off ++ new ++ cs.drop (off + new.length)

def fillV : List (Nat × Nat) → List V → List V → Option (List V)
  | [], [], cs => some cs
  | (off, size) :: ps, x :: xs, cs => if x.cells.length = size ∧ off + size ≤ cs.length then fillV ps xs (spliceAt off x.cells cs) else none
  | _, _, _ => none

def loadV (n : Option Nat) (cs : List V) : Option V :=
  match n with
  | none => match cs with | c :: _ => some c.strip | [] => none
  | some k => if k ≤ cs.length then some (.agg (cs.take k)) else none

/-- A row is cut into elements of so many cells. -/
def chunk (sz : Nat) : Nat → List V → List V
  | 0, _ => []
  | n + 1, cs => (if sz = 1 then cs.headD .junk else .agg (cs.take sz)) :: chunk sz n (cs.drop sz)

def isLocal : V → Bool
  | .ptr .. => true
  | .func _ f c => !f.isEmpty || !c.isEmpty
  | .junk => true
  | .undef => true
  | .slc .. => true
  | .fptr _ => true
  | .mref _ => true
  | .iref _ => true
  | .mapv .. => true
  | .siter .. => true
  | .tup _ => true
  | .sagg _ => true
  | _ => false

def V.isOneCell : V → Bool
  | .agg _ => false
  | .sagg _ => false
  | .tup _ => false
  | .junk => false
  | .undef => false
  | .mapv .. => false
  | .siter .. => false
  | _ => true

def V.isOwn : V → Bool
  | .list _ _ o => o
  | .fptr _ => true
  | _ => false

/-- May this V stand in a cell of a row that is kept? -/
def okc (v : V) : Bool := v.isOneCell && !isLocal v && !v.isOwn

/-- May this be a part of a row that is kept? (The cells of a struct may.) -/
def data : V → Bool
  | .agg _ => true
  | v => okc v

def rMv : List V → Option V
  | [x] => some x
  | _ => none
def rPick : List V → Option V
  | [.bool c, a, b] => some (bif c then a.strip else b.strip)
  | _ => none
def rBin (op : BinOp) : List V → Option V
  | [.int k a, .int k' b] => if k = k' then intBin op k a b else none
  | [.str a, .str b] => strBin op a b
  | _ => none
def rShf (op : BinOp) : List V → Option V
  | [.int k a, .int _ b] =>
    if b < 0 then none else
    match op with
    | .shl => some (.int k (k.wrap (a * 2 ^ (min b.toNat k.bits))))
    | .shr => some (.int k (a.fdiv (2 ^ (min b.toNat k.bits))))
    | _ => none
  | _ => none
def rNot : List V → Option V
  | [.bool b] => some (.bool !b)
  | _ => none
def rNeg : List V → Option V
  | [.int k a] => some (.int k (k.wrap (0 - a)))
  | _ => none
def rBeq (neg : Bool) : List V → Option V
  | [.bool a, .bool b] => some (.bool (neg ^^ (a == b)))
  | _ => none
def rSeq (ks : List Nat) (neg : Bool) : List V → Option V
  | [.agg a, .agg b] => (cellsEq ks a b).map fun e => .bool (neg ^^ e)
  | _ => none
def rIsnil (neg : Bool) : List V → Option V
  | [.nilp] => some (.bool (neg ^^ true))
  | [.ptr ..] => some (.bool (neg ^^ false))
  | [.cptr _] => some (.bool (neg ^^ false))
  | _ => none
/-- A slice held against nil: of an empty one it is not known. -/
def rIsnils (neg : Bool) : List V → Option V
  | [.nils _] => some (.bool (neg ^^ true))
  | [.emp _] => some (.bool (neg ^^ false))
  | [.list _ (_ :: _) _] => some (.bool (neg ^^ false))
  | _ => none
/-- An interface value held against nil. -/
def rIsifc (neg : Bool) : List V → Option V
  | [.ifc b] => some (.bool (neg ^^ b))
  | _ => none
def rSidx : List V → Option V
  | [.str s, .int _ i] => if idxOk i s.length then (s[i.toNat]?).map fun b => .int .u8 b.toNat else none
  | _ => none
def rAidx (n sz : Nat) (ag : Bool) : List V → Option V
  | [.agg cs, .int _ i] => if idxOk i n = true ∧ n * sz ≤ cs.length then (if ag then some (.agg ((cs.drop (i.toNat * sz)).take sz)) else (cs[i.toNat * sz]?).map V.strip) else none
  | _ => none
def rIaddr (sz : Nat) : List V → Option V
  | [.list sz' xs _, .int _ i] => if sz = sz' ∧ idxOk i xs.length = true then (xs[i.toNat]?).map fun x => .cptr x.cells else none
  | [.slc l t o sz' n, .int _ i] => if sz = sz' ∧ idxOk i n = true then some (.ptr l t (o + i.toNat * sz)) else none
  | _ => none
def rIaddra (n sz : Nat) : List V → Option V
  | [.cptr cs, .int _ i] => if idxOk i n = true then some (.cptr (cs.drop (i.toNat * sz))) else none
  | [.ptr l t o, .int _ i] => if idxOk i n = true then some (.ptr l t (o + i.toNat * sz)) else none
  | _ => none
def rFaddr (off : Nat) : List V → Option V
  | [.cptr cs] => some (.cptr (cs.drop off))
  | [.ptr l t o] => some (.ptr l t (o + off))
  | _ => none
def rLoad (n : Option Nat) : List V → Option V
  | [.cptr cs] => loadV n cs
  | _ => none
def rSsl (lo hi : Bool) : List V → Option V
  | .str s :: r => (bounds s.length s.length lo hi r).map fun (a, b) => .str ((s.take b).drop a)
  | _ => none
def rLsl (sz : Nat) (lo hi mx : Bool) : List V → Option V
  | .list sz' xs _ :: r => if sz = sz' ∧ mx = false then (bounds xs.length xs.length lo hi r).map fun (a, b) => .list sz ((xs.take b).drop a) false else none
  | .slc l t o sz' n :: r => if sz = sz' ∧ mx = false then (bounds n n lo hi r).map fun (a, b) => .slc l t (o + a * sz) sz (b - a) else none
  | _ => none
def rSlen : List V → Option V
  | [.str s] => some (.int .i64 s.length)
  | _ => none
def rLlen : List V → Option V
  | [.list _ xs _] => some (.int .i64 xs.length)
  | [.slc _ _ _ _ n] => some (.int .i64 n)
  | [.nils _] => some (.int .i64 0)
  | _ => none
/-- A slice of no elements, and no room: s[:0:0]. -/
def rLsl0 (sz : Nat) : List V → Option V
  | [.list sz' _ _, .int _ 0, .int _ 0] => if sz = sz' then some (.list sz [] true) else none
  | _ => none
def rAppend (sz bytes : Nat) : List V → Option V
  | [.list sz1 xs true, .list sz2 ys _] =>
    if sz = sz1 ∧ sz = sz2 ∧ (xs.length + ys.length) * bytes ≤ 140737488355328 ∧ xs.length + ys.length ≤ 140737488355328 then some (.list sz (xs ++ ys) true) else none
  | [.full sz1 xs, .list sz2 ys _] =>
    if sz = sz1 ∧ sz = sz2 ∧ 0 < ys.length ∧ (xs.length + ys.length) * bytes ≤ 140737488355328 ∧ xs.length + ys.length ≤ 140737488355328 then some (.list sz (xs ++ ys) true) else none
  | [.list sz1 xs true, .emp sz2] => if sz = sz1 ∧ sz = sz2 ∧ xs.length * bytes ≤ 140737488355328 ∧ xs.length ≤ 140737488355328 then some (.list sz xs true) else none
  | _ => none
def byteV (b : UInt8) : V := .int .u8 b.toNat
def rAppends : List V → Option V
  | [.list 1 xs true, .str s] => if xs.length + s.length ≤ 140737488355328 then some (.list 1 (xs ++ s.map byteV) true) else none
  | _ => none
/-- []byte(b), of a row of bytes that is owned. -/
def rBoxc : List V → Option V
  | [x] => if data x then some (.cptr x.cells) else none
  | _ => none
/-- The one store into a variable that is only read from then on. -/
def rStorec (k : Nat) : List V → Option V
  | [.fptr n, x] => if n = k ∧ data x = true ∧ x.cells.length = n then some (.cptr x.cells) else none
  | _ => none
def rCvb : List V → Option V
  | [.list 1 (x :: xs) true] => some (.list 1 (x :: xs) true)
  | _ => none
def rS2b : List V → Option V
  | [.str s] => if s.length ≤ 16777216 then some (.list 1 (s.map byteV) true) else none
  | _ => none
def unbyte : List V → Option (List UInt8)
  | [] => some []
  | .int .u8 n :: r => (unbyte r).map fun s => n.toNat.toUInt8 :: s
  | _ => none
def rB2s : List V → Option V
  | [.list 1 xs _] => (unbyte xs).map .str
  | _ => none
def rExt (i : Nat) : List V → Option V
  | [.tup vs] => (vs[i]?).map V.strip
  | _ => none
def notTup : V → Option V
  | .tup _ => none
  | .fptr _ => none
  | v => some v
def rExtk (i : Nat) : List V → Option V
  | [.tup vs] => (vs[i]?).bind notTup
  | _ => none
def rFld (off : Nat) (n : Option Nat) : List V → Option V
  | [.agg cs] => loadV n (cs.drop off)
  | _ => none
def rBuild (zero : List V) (parts : List (Nat × Nat)) (xs : List V) : Option V :=
  if xs.all data then (fillV parts xs zero).map .agg else none
/-- A cell of a struct that is handed about by value: nothing in it is owned. -/
def sCell (v : V) : Bool := v.isOneCell && !v.isOwn
def partOk : V → Bool
  | .agg _ => true
  | .sagg _ => true
  | v => sCell v
def rBuilds (zero : List V) (parts : List (Nat × Nat)) (xs : List V) : Option V :=
  if xs.all partOk then (fillV parts xs zero).map .sagg else none
def rBslice (sz n : Nat) (zero : List V) (parts : List (Nat × Nat)) (xs : List V) : Option V :=
  if xs.all data then (fillV parts xs zero).map fun cs => .list sz (chunk sz n cs) true else none
/-- A slice as it is made: there is no room behind it. -/
def rBslicef (sz n : Nat) (zero : List V) (parts : List (Nat × Nat)) (xs : List V) : Option V :=
  if xs.all data then (fillV parts xs zero).map fun cs => .full sz (chunk sz n cs) else none
def rConvi (k : IntKind) : List V → Option V
  | [.int _ n] => some (.int k (k.wrap n))
  | _ => none
/-- A rune as a text. -/
def rI2s : List V → Option V
  | [.int _ n] => some (.str (Utf8.encode n).data.toList)
  | _ => none
def rMkf (fn : Fn) (nf : Nat) (xs : List V) : Option V := some (.func fn (xs.take nf) (xs.drop nf))
def rNilchk : List V → Option V
  | [.cptr cs] => some (.cptr cs)
  | [.ptr l t o] => some (.ptr l t o)
  | _ => none

/-- A whole array, that is never written again, as a slice. -/
def rAsl (n sz : Nat) : List V → Option V
  | [.cptr cs] => if 0 < sz ∧ cs.length = n * sz then some (.list sz (chunk sz n cs) false) else none
  | _ => none

/-- Operations that read no box. -/
def runP : Prim → List V → Option V
  | .mv => rMv
  | .pick => rPick
  | .bin op => rBin op
  | .un .not => rNot
  | .un .neg => rNeg
  | .beq neg => rBeq neg
  | .seq ks neg => rSeq ks neg
  | .isnil neg => rIsnil neg
  | .isnils neg => rIsnils neg
  | .isifc neg => rIsifc neg
  | .cvb => rCvb
  | .allocf n => fun xs => match xs with | [] => some (.fptr n) | _ => none
  | .boxc => rBoxc
  | .storec n => rStorec n
  | .loadc n => rLoad n
  | .sidx => rSidx
  | .aidx n sz ag => rAidx n sz ag
  | .iaddr sz => rIaddr sz
  | .iaddra n sz => rIaddra n sz
  | .faddr off => rFaddr off
  | .load n => rLoad n
  | .ssl lo hi => rSsl lo hi
  | .lsl sz lo hi mx => bif mx then rLsl0 sz else rLsl sz lo hi false
  | .slen => rSlen
  | .llen => rLlen
  | .append sz bytes => rAppend sz bytes
  | .appends => rAppends
  | .ext i => rExt i
  | .fld off n => rFld off n
  | .build zero parts => rBuild zero parts
  | .builds zero parts => rBuilds zero parts
  | .bslice sz n zero parts => rBslice sz n zero parts
  | .bslicef sz n zero parts => rBslicef sz n zero parts
  | .convi k => rConvi k
  | .i2s => rI2s
  | .mkf fn nf => rMkf fn nf
  | .nilchk => rNilchk
  | .asl n sz => rAsl n sz
  | .shf op => rShf op
  | .extk i => rExtk i
  | .s2b => rS2b
  | .b2s => rB2s
  | _ => fun _ => none

/-- Operations that read boxes. -/
def loadB : Option Nat → List V → Option V
  | none, cs => loadV none cs
  | some k, cs => (fun ds => if ds.length = k ∧ ds.all okc = true then some (.agg ds) else none) ((cs.take k).map V.strip1)
def rLoadB (n : Option Nat) : List V → Mem → Option V
  | [.ptr l t o], m => (mget m l t).bind fun cs => loadB n (cs.drop o)
  | _, _ => none
def keyEq : V → V → Bool
  | .str a, .str b => a == b
  | .int k a, .int k' b => decide (k = k') && a == b
  | _, _ => false
def findK : List V → List V → V → Option V
  | k :: ks, v :: vs, x => bif keyEq x k then some v else findK ks vs x
  | _, _, _ => none
def isKey : Option IntKind → V → Bool
  | none, .str _ => true
  | some k, .int k' _ => decide (k = k')
  | _, _ => false
def mapAns (ok : Bool) (zero : V) (r : Option V) : V :=
  match r with
  | some v => bif ok then .tup [v, .bool true] else v
  | none => bif ok then .tup [zero, .bool false] else zero
def rMget (kd : Option IntKind) (ok : Bool) (zero : V) : List V → Mem → Option V
  | [.mref t, x], m => (Ev.mget m 1 t).bind fun cs => match cs with
    | [.mapv kd' ks vs] => bif decide (kd' = kd) && isKey kd x then some (mapAns ok zero (findK ks vs x)) else none
    | _ => none
  | _, _ => none
def runR : Prim → List V → Mem → Option V
  | .load n => rLoadB n
  | .mget kd ok zero => rMget kd ok zero
  | _ => fun _ _ => none

/-- 0: reads no box; 1: reads; 2: all else; 3: a call that is handed no memory. -/
def Prim.kind : Prim → Nat
  | .load _ => 1
  | .mget .. => 1
  | .anew _ => 2
  | .abox => 2
  | .loadk => 2
  | .mkmap _ => 2
  | .mset _ => 2
  | .mkrow .. => 2
  | .copyb _ => 2
  | .rng => 2
  | .nxt => 2
  | .store _ => 2
  | .alloc _ => 2
  | .box => 2
  | .call _ => 2
  | .callv => 2
  | .callt _ => 2
  | .callp _ => 3
  | .callf _ => 3
  | .arow .. => 2
  | .appb .. => 2
  | .callz _ => 2
  | .loadf _ => 2
  | _ => 0

def dataCell (l : Nat) : V → Bool
  | .ptr l' _ _ => Nat.ble l' l
  | .slc l' _ _ _ _ => Nat.ble l' l
  | .func _ f c => f.isEmpty && c.isEmpty
  | .junk => false
  | .undef => false
  | .fptr _ => false
  | .agg _ => false
  | .sagg _ => false
  | .tup _ => false
  | .mapv .. => false
  | .siter .. => false
  | _ => true
/-- A cell of a box as it is new: nothing in it is owned. -/
def newCell (l : Nat) (v : V) : Bool := dataCell l v && !v.isOwn

def rStore (n : Nat) : Option Nat → List V → Mem → Option (V × Mem)
  | none, [.ptr l t o, x], m =>
    (mget m l t).bind fun cs =>
      if x.cells.length = n ∧ o + n ≤ cs.length ∧ x.cells.all (dataCell l) = true then some (.undef, mput m l t (spliceAt o x.cells cs)) else none
  | _, _, _ => none
/-- Rows that are nil as a box is new are owned by it. -/
def ownE : V → V
  | .nils sz => .list sz [] true
  | v => v
/-- A new box of the innermost frame, under the slot's number. -/
def newBox (cs : List V) : Option Nat → Mem → Option (V × Mem)
  | some d, b :: m =>
    match bget b d with
    | none => if cs.all (newCell m.length) then some (.ptr m.length d 0, bput b d (cs.map ownE) :: m) else none
    | some _ => none
  | _, _ => none
def rBox : Option Nat → List V → Mem → Option (V × Mem)
  | d, [x], m => newBox x.cells d m
  | _, _, _ => none
def rAlloc (zero : List V) : Option Nat → List V → Mem → Option (V × Mem)
  | d, [], m => newBox zero d m
  | _, _, _ => none
def newAt (l : Nat) (cs : List V) (m : Mem) : Option (V × Mem) :=
  if cs.all (newCell 0) then (mnew l (cs.map ownE) m).map fun (k, m') => (.ptr l k 0, m') else none
def rAbox : List V → Mem → Option (V × Mem)
  | [x], m => newAt 0 x.cells m
  | _, _ => none
def rAnew (zero : List V) : List V → Mem → Option (V × Mem)
  | [], m => newAt 0 zero m
  | _, _ => none
/-- What stands in a box's cell, and is owned there, is taken. -/
def rLoadk : List V → Mem → Option (V × Mem)
  | [.ptr l t o], m => (Ev.mget m l t).bind fun cs => (cs[o]?).map fun v => (v, mput m l t (cs.set o v.strip1))
  | _, _ => none
def rMkmap (kd : Option IntKind) : List V → Mem → Option (V × Mem)
  | [], m => (mnew 1 [.mapv kd [] []] m).map fun (k, m') => (.mref k, m')
  | _, _ => none
def setK : List V → List V → V → V → List V × List V
  | k :: ks, v :: vs, x, y => bif keyEq x k then (k :: ks, y :: vs) else ((fun p => (k :: p.1, v :: p.2)) (setK ks vs x y))
  | ks, vs, x, y => (ks ++ [x], vs ++ [y])
def rMset (kd : Option IntKind) : List V → Mem → Option (V × Mem)
  | [.mref t, x, y], m => (Ev.mget m 1 t).bind fun cs => match cs with
    | [.mapv kd' ks vs] => if kd' = kd ∧ isKey kd x = true ∧ data y = true then some (.undef, mput m 1 t [(fun p => .mapv kd p.1 p.2) (setK ks vs x y)]) else none
    | _ => none
  | _, _ => none
/-- make([]T, n): a row of the frame's. -/
def rMkrow (sz bytes : Nat) (zero : List V) : Option Nat → List V → Mem → Option (V × Mem)
  | some d, [.int .i64 n, .int .i64 c], b :: m =>
    if 0 ≤ n ∧ c = n ∧ n * bytes ≤ 140737488355328 ∧ n * sz ≤ 140737488355328 then
      match bget b d with
      | none => if zero.all (newCell m.length) then some (.slc m.length d 0 sz n.toNat, bput b d (List.replicate n.toNat zero).flatten :: m) else none
      | some _ => none
    else none
  | _, _, _ => none
/-- copy(a row, a list). -/
def rCopyb (sz : Nat) : List V → Mem → Option (V × Mem)
  | [.slc l t o sz' n, .list sz2 xs _], m =>
    (Ev.mget m l t).bind fun cs => if sz = sz' ∧ sz = sz2 ∧ cs ≠ [] ∧ o + n * sz ≤ cs.length ∧ (flat (xs.take n)).all (dataCell l) = true then some (.int .i64 (min xs.length n : Nat), mput m l t (spliceAt o (flat (xs.take n)) cs)) else none
  | _, _ => none
/-- A literal slice as a row of the arena's: whoever has it may write into it. -/
def rArow (sz n : Nat) (zero : List V) (parts : List (Nat × Nat)) (xs : List V) (m : Mem) : Option (V × Mem) :=
  if xs.all data then (fillV parts xs zero).bind fun cs => if cs ≠ [] then (mnew 0 cs m).map fun (k, m') => (.slc 0 k 0 sz n, m') else none else none
def appbFits (sz bytes n k : Nat) : Bool := decide (0 < sz) && decide ((n + k) * bytes ≤ 140737488355328) && decide (n + k ≤ 140737488355328)
/-- Behind a row of the arena's, or nothing: a new row; the old one is dead. -/
def rAppb (sz bytes : Nat) : List V → Mem → Option (V × Mem)
  | [.slc l t o sz1 n, .list sz2 ys _], m =>
    (Ev.mget m l t).bind fun cs => if l = 0 ∧ o = 0 ∧ sz = sz1 ∧ sz = sz2 ∧ cs ≠ [] ∧ ys ≠ [] ∧ cs.length = n * sz ∧ cs.all okc = true ∧ appbFits sz bytes n ys.length = true then
      (mnew 0 (cs ++ flat ys) (mput m 0 t [])).map fun (k, m') => (.slc 0 k 0 sz (n + ys.length), m') else none
  | [.nils sz1, .list sz2 ys _], m =>
    if sz = sz1 ∧ sz = sz2 ∧ ys ≠ [] ∧ appbFits sz bytes 0 ys.length = true then (mnew 0 (flat ys) m).map fun (k, m') => (.slc 0 k 0 sz ys.length, m') else none
  | [.list sz1 [] true, .list sz2 ys _], m =>
    if sz = sz1 ∧ sz = sz2 ∧ ys ≠ [] ∧ appbFits sz bytes 0 ys.length = true then (mnew 0 (flat ys) m).map fun (k, m') => (.slc 0 k 0 sz ys.length, m') else none
  | _, _ => none
/-- A cell, where a row of the arena's is what it comes to: nobody writes it from then on. -/
def frzCell (m : Mem) : V → Option (V × Mem)
  | .slc l t o sz n => (Ev.mget m l t).bind fun cs => if l = 0 ∧ o = 0 ∧ 0 < sz ∧ cs ≠ [] ∧ cs.length = n * sz ∧ cs.all okc = true then some (.list sz (chunk sz n cs) false, mput m 0 t []) else none
  | v => if okc v.strip1 then some (v.strip1, m) else none
def frzCells : List V → Mem → Option (List V × Mem)
  | [], m => some ([], m)
  | c :: r, m => (frzCell m c).bind fun (c', m1) => (frzCells r m1).map fun (r', m2) => (c' :: r', m2)
/-- What stands in a box, with its rows. -/
def rLoadf (n : Nat) : List V → Mem → Option (V × Mem)
  | [.ptr l t o], m => (Ev.mget m l t).bind fun cs => if ((cs.drop o).take n).length = n then (frzCells ((cs.drop o).take n) m).map fun (ds, m') => (.agg ds, m') else none
  | _, _ => none
def rRng : List V → Mem → Option (V × Mem)
  | [.str s], m => (mnew 1 [.siter s 0] m).map fun (k, m') => (.iref k, m')
  | _, _ => none
def rNxt : List V → Mem → Option (V × Mem)
  | [.iref t], m => (Ev.mget m 1 t).bind fun cs => match cs with
    | [.siter s pos] =>
      if pos < s.length then
        let d := Utf8.decode ⟨s.toArray⟩ pos
        some (.tup [.bool true, .int .i64 pos, .int .i32 d.1], mput m 1 t [.siter s (pos + d.2)])
      else some (.tup [.bool false], m)
    | _ => none
  | _, _ => none
def rCall (call : CallF) (f : Nat) (xs : List V) (m : Mem) : Option (V × Mem) := call f xs m
def rCallv (call : CallF) : List V → Mem → Option (V × Mem)
  | .func (.func f) first cap :: xs, m => call f (first ++ xs ++ cap) m
  | _, _ => none

def deepLocal : V → Bool
  | .tup vs => vs.any isLocal
  | v => isLocal v
/-- A call that is handed no pointer, and no memory. -/
def rCallp (call : CallF) (f : Nat) (xs : List V) : Option V :=
  if xs.all (fun v => !isLocal v) then (call f xs [[], []]).bind fun (v, _) => if deepLocal v then none else some v else none
/-- What a row of the arena's comes to when nobody writes it any more. -/
def arowOf (m : Mem) : V → Option V
  | .slc l t o sz n => (mget m l t).bind fun cs => if l = 0 ∧ o = 0 ∧ 0 < sz ∧ cs ≠ [] ∧ cs.length = n * sz ∧ cs.all okc = true then some (.list sz (chunk sz n cs) true) else none
  | .nils sz => some (.list sz [] true)
  | _ => none
/-- A call that is handed no memory, and whose row is from then on only read. -/
def rCallf (call : CallF) (f : Nat) (xs : List V) : Option V :=
  if xs.all (fun v => !isLocal v) then (call f xs [[], []]).bind fun (v, m) => arowOf m v else none
/-- The same, where the row goes on as one of the arena's. -/
def rCallz (call : CallF) (f : Nat) (xs : List V) (m : Mem) : Option (V × Mem) :=
  if xs.all (fun v => !isLocal v) then (call f xs [[], []]).bind fun (v, m1) => match v with
    | .slc l t o sz n => (mget m1 l t).bind fun cs => if l = 0 ∧ o = 0 ∧ 0 < sz ∧ cs ≠ [] ∧ cs.length = n * sz ∧ cs.all okc = true then (mnew 0 cs m).map fun (k, m') => (.slc 0 k 0 sz n, m') else none
    | .list sz [] _ => some (.list sz [] false, m)
    | _ => none
  else none
/-- What bears no knowledge of memory. -/
def scalar : V → Bool
  | .int .. => true
  | .bool _ => true
  | .str _ => true
  | _ => false
/-- A result whose first part is an owned row: the row becomes a box of the innermost frame's, under the slot's number. -/
def thaw (d : Option Nat) (v : V) (m : Mem) : V × Mem :=
  match v, d, m with
  | .tup (.list sz xs true :: q), some d, b :: m' =>
    if (!xs.isEmpty && xs.all scalar && q.all scalar && decide (sz = 1) && (bget b d).isNone) = true then (.tup (.slc m'.length d 0 1 xs.length :: q), bput b d xs :: m') else (v, m)
  | _, _, _ => (v, m)
def rCallt (call : CallF) (f : Nat) (d : Option Nat) (xs : List V) (m : Mem) : Option (V × Mem) := (rCallp call f xs).map fun v => thaw d v m

/-- Operations that write boxes, or may. -/
def runW (call : CallF) : Prim → Option Nat → List V → Mem → Option (V × Mem)
  | .store n => rStore n
  | .alloc zero => rAlloc zero
  | .box => rBox
  | .call f => fun _ => rCall call f
  | .callv => fun _ => rCallv call
  | .callt f => rCallt call f
  | .anew zero => fun _ => rAnew zero
  | .abox => fun _ => rAbox
  | .loadk => fun _ => rLoadk
  | .mkmap kd => fun _ => rMkmap kd
  | .mset kd => fun _ => rMset kd
  | .mkrow sz bytes zero => rMkrow sz bytes zero
  | .copyb sz => fun _ => rCopyb sz
  | .arow sz n zero parts => fun _ => rArow sz n zero parts
  | .appb sz bytes => fun _ => rAppb sz bytes
  | .callz f => fun _ => rCallz call f
  | .loadf n => fun _ => rLoadf n
  | .rng => fun _ => rRng
  | .nxt => fun _ => rNxt
  | _ => fun _ _ _ => none

def runC (call : CallF) : Prim → List V → Option V
  | .callp f => rCallp call f
  | .callf f => rCallf call f
  | _ => fun _ => none

def Prim.run (call : CallF) (p : Prim) (dst : Option Nat) (xs : List V) (m : Mem) : Option (V × Mem) :=
  match p.kind with
  | 0 => (runP p xs).map fun v => (v, m)
  | 1 => match runP p xs with
    | some v => some (v, m)
    | none => (runR p xs m).map fun v => (v, m)
  | 3 => (runC call p xs).map fun v => (v, m)
  | _ => runW call p dst xs m

def readArg (e : Env) : AArg → V
  | .t n => (get e n).strip
  | .k n => get e n
  | .c v => v

def stripTakes (e : Env) : List AArg → Env
  | [] => e
  | .k n :: r => stripTakes (put e n (get e n).strip) r
  | _ :: r => stripTakes e r

def putO (e : Env) (d : Option Nat) (v : V) : Env :=
  match d with
  | some t => put e t v
  | none => e

def AOp.exec (call : CallF) (o : AOp) (s : St) : Option St :=
  (o.pr.run call o.dst (o.args.map (readArg s.env)) s.mem).map fun (v, m) => { env := putO (stripTakes s.env o.args) o.dst v, mem := m }

def evOp (call : CallF) (o : AOp) (s : St) : Option St :=
  match o.g with
  | none => o.exec call s
  | some (g, b) =>
    match get s.env g with
    | .bool c => bif c == b then o.exec call s else some { s with env := putO s.env o.dst .undef }
    | .undef => some { s with env := putO s.env o.dst .undef }
    | _ => none

def evOps (call : CallF) : List AOp → St → Option St
  | [], s => some s
  | o :: r, s => (evOp call o s).bind (evOps call r)

def eraseAll : List Nat → Env → Env
  | [], e => e
  | t :: r, e => eraseAll r (erase e t)

def pointsTo (l t : Nat) : V → Bool
  | .ptr l' t' _ => Nat.beq l' l && Nat.beq t' t
  | .slc l' t' _ _ _ => Nat.beq l' l && Nat.beq t' t
  | .tup vs => vs.any isLocal
  | .sagg vs => vs.any isLocal
  | .func _ f c => !f.isEmpty || !c.isEmpty
  | _ => false

/-- No slot, and no box, points into box t of the innermost frame. -/
def unpointed (t : Nat) (s : St) : Bool :=
  match s.mem with
  | [] => false
  | b :: m => s.env.all (fun p => !pointsTo m.length t p.2) && b.all (fun p => p.2.all fun v => !pointsTo m.length t v)

/-- A row that is box t of level l, whole: as it stands. -/
def frz1 (l t : Nat) (cs : List V) : V → Option V
  | .slc l' t' o sz n => if l' = l ∧ t' = t then (if o = 0 ∧ sz = 1 ∧ n = cs.length then some (.list 1 cs false) else none) else some (.slc l' t' o sz n)
  | v => if pointsTo l t v then none else some v
def frzE (l t : Nat) (cs : List V) : Env → Option Env
  | [] => some []
  | (k, v) :: r => (frz1 l t cs v).bind fun v' => (frzE l t cs r).map fun r' => (k, v') :: r'
/-- Box t of the innermost frame, whose cells bear no knowledge, becomes known as it stands; rows that were it are lists. -/
def freeze (t : Nat) (s : St) : Option St :=
  match s.mem with
  | [] => none
  | b :: m => match bget b t with
    | none => none
    | some cs => if !cs.isEmpty && cs.all scalar && b.all (fun p => p.2.all fun v => !pointsTo m.length t v) then (frzE m.length t cs s.env).map fun e => { env := e, mem := berase b t :: m } else none
def dropAll : List Nat → St → Option St
  | [], s => some s
  | t :: r, s =>
    if unpointed t s then dropAll r { s with mem := match s.mem with | [] => [] | b :: m => berase b t :: m } else (freeze t s).bind (dropAll r)

def findL : ACode → Nat → Option ACode
  | .seq a b, l =>
    match findL a l with
    | some rest => some (.seq rest b)
    | none => findL b l
  | .label l', l => if l' == l then some .skip else none
  | .clr _ _ b, l => findL b l
  | _, _ => none

abbrev Res := Option (AExit × St)

def iterL (f : St → Res) : Nat → St → Res
  | 0, _ => none
  | n + 1, s => (f s).bind fun (e, s') => match e with
    | .normal => iterL f n s'
    | e => some (e, s')

/-- Jumps inside a scope: 'rest l' is what stands behind label l. -/
def iterS (run : Nat → St → Option Res) : Nat → Res → Res
  | 0, _ => none
  | n + 1, r => r.bind fun (e, s') => match e with
    | .goto l => (run l s').bind fun r' => iterS run n r'
    | e => some (e, s')

def blockExit (id : Nat) (p : AExit × St) : Res :=
  match p.1 with
  | .exit id' => if id' = id then some (.normal, p.2) else some p
  | _ => some p

/-- Operations in another order. -/
def pickOps (l : List AOp) (alt : List Nat) : List AOp := alt.filterMap fun i => l[i]?
open Classical in
/-- A region whose order is open: in all these orders it gives the same. -/
noncomputable def evOpsD (call : CallF) (l : List AOp) (alts : List (List Nat)) (s : St) : Option St :=
  (evOps call l s).bind fun s' => if ∀ alt ∈ alts, evOps call (pickOps l alt) s = some s' then some s' else none

/-- Code; the fuel is spent on rounds and jumps alone ('d': how deep scopes may be looked into behind a jump). -/
noncomputable def evC (call : CallF) (fuel : Nat) : Nat → ACode → St → Res
  | 0, _, _ => none
  | _ + 1, .skip, s => some (.normal, s)
  | _ + 1, .ops l cl dr, s => (evOps call l s).bind fun s' => (dropAll dr { s' with env := eraseAll cl s'.env }).map fun s'' => (.normal, s'')
  | _ + 1, .opsd l _ alts cl dr, s => (evOpsD call l alts s).bind fun s' => (dropAll dr { s' with env := eraseAll cl s'.env }).map fun s'' => (.normal, s'')
  | d + 1, .seq a b, s => (evC call fuel d a s).bind fun (e, s') => match e with
    | .normal => evC call fuel d b s'
    | e => some (e, s')
  | d + 1, .cond c a b, s => match readArg s.env c with
    | .bool t => bif t then evC call fuel d a s else evC call fuel d b s
    | _ => none
  | d + 1, .block id b, s => (evC call fuel d b s).bind (blockExit id)
  | d + 1, .loop b, s => iterL (evC call fuel d b) fuel s
  | _ + 1, .exit id, s => some (.exit id, s)
  | d + 1, .scope b, s => iterS (fun l s' => (findL b l).map fun rest => evC call fuel d rest s') fuel (evC call fuel d b s)
  | _ + 1, .label _, s => some (.normal, s)
  | _ + 1, .goto l, s => some (.goto l, s)
  | _ + 1, .ret, s => some (.ret, s)
  | d + 1, .clr cl dr b, s => (dropAll dr { s with env := eraseAll cl s.env }).bind (evC call fuel d b)

/-- A result: a slot ('k': with what it owns), what stands in the box to which a slot points, what is owned in its cell, a row of the frame's (from then on kept). -/
inductive ARes where
  | a (x : AArg)
  | b (t : Nat) (n : Option Nat)
  | bk (t : Nat)
  | z (t : Nat)
  deriving Inhabited

structure AFunc where
  nparams : Nat
  body : ACode
  results : List ARes
  deriving Inhabited

def initEnv : Nat → List V → Env
  | _, [] => []
  | i, x :: r => (i, x.strip) :: initEnv (i + 1) r

/-- A result: a slot, or what stands in the box to which a slot points. -/
def resOne (s : St) : ARes → Option V
  | .a (.k t) => notTup (get s.env t)
  | .a x => some (readArg s.env x).strip
  | .bk t => match get s.env t with
    | .ptr l k o => (mget s.mem l k).bind fun cs => if l + 1 = s.mem.length then cs[o]? else none
    | _ => none
  | .z t => match get s.env t with
    | .slc l k 0 sz n => (mget s.mem l k).bind fun cs => if 0 < sz ∧ cs ≠ [] ∧ cs.length = n * sz ∧ l + 1 = s.mem.length ∧ cs.all okc = true then some (.list sz (chunk sz n cs) true) else none
    | _ => none
  | .b t n => match get s.env t with
    | .ptr l k o => (mget s.mem l k).bind fun cs => loadB n (cs.drop o)
    | _ => none

def resAll (s : St) : List ARes → Option (List V)
  | [] => some []
  | r :: rs => (resOne s r).bind fun v => (resAll s rs).map fun vs => v :: vs

def resultOf (s : St) (l : List ARes) : Option V :=
  (resAll s l).map fun vs => match vs with
    | [v] => v
    | vs => .tup vs

def noPtr0 (l : Nat) : V → Bool
  | .ptr l' _ _ => Nat.blt l' l
  | .slc l' _ _ _ _ => Nat.blt l' l
  | .func _ f c => f.isEmpty && c.isEmpty
  | .junk => false
  | .undef => false
  | .fptr _ => false
  | .tup _ => false
  | .sagg _ => false
  | .mapv .. => false
  | .siter .. => false
  | _ => true

def noPtr1 (l : Nat) : V → Bool
  | .func _ f c => f.all (noPtr0 l) && c.all (noPtr0 l)
  | .ptr l' _ _ => Nat.blt l' l
  | .slc l' _ _ _ _ => Nat.blt l' l
  | .junk => false
  | .undef => false
  | .fptr _ => false
  | .tup _ => false
  | .sagg _ => false
  | .mapv .. => false
  | .siter .. => false
  | _ => true

def noPtr (l : Nat) : V → Bool
  | .tup vs => vs.all (noPtr1 l)
  | v => noPtr1 l v

def finish (f : AFunc) : AExit × St → Option (V × Mem)
  | (.normal, s) | (.ret, s) =>
    match s.mem with
    | [] => none
    | _ :: m => (resultOf s f.results).bind fun v => if noPtr m.length v then some (v, m) else none
  | _ => none

noncomputable def evF (A : Nat → Option AFunc) (prim : CallF) : Nat → CallF
  | 0 => fun _ _ _ => none
  | n + 1 => fun f xs m =>
    match A f with
    | none => prim f xs m
    | some af => if xs.length = af.nparams then (evC (evF A prim n) n n af.body { env := initEnv 0 xs, mem := [] :: m }).bind (finish af) else none

end Go.Proofs.YtpajgenngpjbaaaGreat.Ev

/- The evaluator's limit: more fuel gives the same answer; the equations that hold without fuel. No program in sight. -/
namespace Go.Proofs.YtpajgenngpjbaaaGreat.Ev
open Go

def Le {α : Type} (a b : Option α) : Prop := ∀ x, a = some x → b = some x

theorem Le.refl {α : Type} (a : Option α) : Le a a := fun _ h => h
theorem Le.none {α : Type} (b : Option α) : Le Option.none b := fun _ h => by cases h
theorem Le.bind {α β : Type} {a b : Option α} {f g : α → Option β} (h : Le a b) (hf : ∀ x, Le (f x) (g x)) : Le (a.bind f) (b.bind g) := by
  intro x hx
  cases ha : a with
  | none => rw [ha] at hx; cases hx
  | some y => rw [ha] at hx; rw [h y ha]; exact hf y x hx
theorem Le.map {α β : Type} {a b : Option α} {f : α → β} (h : Le a b) : Le (a.map f) (b.map f) := by
  intro x hx
  cases ha : a with
  | none => rw [ha] at hx; cases hx
  | some y => rw [ha] at hx; rw [h y ha]; exact hx

def CLe (f g : CallF) : Prop := ∀ a b c, Le (f a b c) (g a b c)

theorem runW_mono {f g : CallF} (h : CLe f g) (p : Prim) (d : Option Nat) (xs : List V) (m : Mem) : Le (runW f p d xs m) (runW g p d xs m) := by
  cases p <;> first | exact Le.refl _ | skip
  · exact h _ _ _
  · rename_i k
    show Le (rCallt f k d xs m) (rCallt g k d xs m)
    unfold rCallt rCallp
    refine Le.map ?_
    split
    · exact Le.bind (h _ _ _) (fun _ => Le.refl _)
    · exact Le.none _
  · show Le (rCallv f xs m) (rCallv g xs m)
    unfold rCallv; split <;> first | exact h _ _ _ | exact Le.none _
  · rename_i k
    show Le (rCallz f k xs m) (rCallz g k xs m)
    unfold rCallz
    split
    · exact Le.bind (h _ _ _) (fun _ => Le.refl _)
    · exact Le.none _

theorem runC_mono {f g : CallF} (h : CLe f g) (p : Prim) (xs : List V) : Le (runC f p xs) (runC g p xs) := by
  cases p <;> first | exact Le.refl _ | skip
  · rename_i k
    show Le (rCallp f k xs) (rCallp g k xs)
    unfold rCallp
    split
    · exact Le.bind (h _ _ _) (fun _ => Le.refl _)
    · exact Le.none _
  · rename_i k
    show Le (rCallf f k xs) (rCallf g k xs)
    unfold rCallf
    split
    · exact Le.bind (h _ _ _) (fun _ => Le.refl _)
    · exact Le.none _

theorem run_mono {f g : CallF} (h : CLe f g) (p : Prim) (d : Option Nat) (xs : List V) (m : Mem) : Le (p.run f d xs m) (p.run g d xs m) := by
  unfold Prim.run
  split
  · exact Le.refl _
  · exact Le.refl _
  · exact Le.map (runC_mono h p xs)
  · exact runW_mono h p d xs m

theorem exec_mono {f g : CallF} (h : CLe f g) (o : AOp) (s : St) : Le (o.exec f s) (o.exec g s) := by
  unfold AOp.exec
  exact Le.map (run_mono h _ _ _ _)

theorem evOp_mono {f g : CallF} (h : CLe f g) (o : AOp) (s : St) : Le (evOp f o s) (evOp g o s) := by
  unfold evOp
  split
  · exact exec_mono h o s
  · split
    · rename_i c _
      cases (c == _) with
      | true => exact exec_mono h o s
      | false => exact Le.refl _
    · exact Le.refl _
    · exact Le.none _

theorem evOps_mono {f g : CallF} (h : CLe f g) : ∀ (l : List AOp) (s : St), Le (evOps f l s) (evOps g l s)
  | [], _ => Le.refl _
  | o :: r, s => Le.bind (evOp_mono h o s) (fun _ => evOps_mono h r _)

theorem evOpsD_some {f : CallF} {l : List AOp} {alts : List (List Nat)} {s s' : St} : evOpsD f l alts s = some s' ↔ evOps f l s = some s' ∧ ∀ y ∈ alts, evOps f (pickOps l y) s = some s' := by
  unfold evOpsD
  constructor
  · intro h
    obtain ⟨s1, h1, h2⟩ := Option.bind_eq_some_iff.1 h
    split at h2
    · rename_i hc
      injection h2 with h2
      subst h2
      exact ⟨h1, hc⟩
    · cases h2
  · rintro ⟨h1, h2⟩
    rw [h1, Option.bind_some, if_pos h2]

theorem evOpsD_mono {f g : CallF} (h : CLe f g) (l : List AOp) (alts : List (List Nat)) (s : St) : Le (evOpsD f l alts s) (evOpsD g l alts s) := fun x hx => by
  obtain ⟨h1, h2⟩ := evOpsD_some.1 hx
  exact evOpsD_some.2 ⟨evOps_mono h l s x h1, fun y hy => evOps_mono h _ s x (h2 y hy)⟩

theorem iterL_mono {f g : St → Res} (h : ∀ s, Le (f s) (g s)) : ∀ {n k : Nat}, n ≤ k → ∀ s, Le (iterL f n s) (iterL g k s)
  | 0, _, _, _ => Le.none _
  | n + 1, 0, hk, _ => by omega
  | n + 1, k + 1, hk, s => by
    unfold iterL
    refine Le.bind (h s) (fun x => ?_)
    obtain ⟨e, s'⟩ := x
    cases e with
    | normal => exact iterL_mono h (by omega) s'
    | _ => exact Le.refl _

theorem iterS_mono {f g : Nat → St → Option Res} (h : ∀ l s r, f l s = some r → ∃ r', g l s = some r' ∧ Le r r') :
    ∀ {n k : Nat}, n ≤ k → ∀ {r r' : Res}, Le r r' → Le (iterS f n r) (iterS g k r')
  | 0, _, _, _, _, _ => Le.none _
  | n + 1, 0, hk, _, _, _ => by omega
  | n + 1, k + 1, hk, r, r', hr => by
    unfold iterS
    refine Le.bind hr (fun x => ?_)
    obtain ⟨e, s'⟩ := x
    cases e with
    | goto l =>
      intro y hy
      cases hf : f l s' with
      | none => simp [hf] at hy
      | some r1 =>
        obtain ⟨r2, hg, hle⟩ := h l s' r1 hf
        simp only [hf, Option.bind_some] at hy
        simp only [hg, Option.bind_some]
        exact iterS_mono h (by omega) hle y hy
    | _ => exact Le.refl _

theorem evC_mono {f g : CallF} (h : CLe f g) {n k : Nat} (hn : n ≤ k) : ∀ {d e : Nat}, d ≤ e → ∀ (c : ACode) (s : St), Le (evC f n d c s) (evC g k e c s)
  | 0, _, _, _, _ => Le.none _
  | d + 1, 0, hd, _, _ => by omega
  | d + 1, e + 1, hd, c, s => by
    have ih : ∀ c s, Le (evC f n d c s) (evC g k e c s) := fun c s => evC_mono h hn (by omega) c s
    cases c with
    | skip => exact Le.refl _
    | ops l cl dr => exact Le.bind (evOps_mono h l s) (fun _ => Le.refl _)
    | opsd l D alts cl dr => exact Le.bind (evOpsD_mono h l alts s) (fun _ => Le.refl _)
    | seq a b =>
      refine Le.bind (ih a s) (fun x => ?_)
      obtain ⟨e, s'⟩ := x
      cases e with
      | normal => exact ih b s'
      | _ => exact Le.refl _
    | cond c a b =>
      unfold evC
      split
      · rename_i t _
        cases t with
        | true => exact ih a s
        | false => exact ih b s
      · exact Le.none _
    | block id b => exact Le.bind (ih b s) (fun _ => Le.refl _)
    | loop b => exact iterL_mono (fun s => ih b s) hn s
    | exit id => exact Le.refl _
    | scope b =>
      unfold evC
      refine iterS_mono (fun l s r hr => ?_) hn (ih b s)
      cases hf : findL b l with
      | none => simp [hf] at hr
      | some rest =>
        simp only [hf, Option.map_some, Option.some.injEq] at hr
        subst hr
        exact ⟨_, rfl, ih rest s⟩
    | label l => exact Le.refl _
    | goto l => exact Le.refl _
    | ret => exact Le.refl _
    | clr cl dr b => exact Le.bind (Le.refl _) (fun s => ih b s)

variable (A : Nat → Option AFunc) (prim : CallF)

theorem evF_succ : ∀ n, CLe (evF A prim n) (evF A prim (n + 1))
  | 0 => fun _ _ _ => Le.none _
  | n + 1 => by
    intro f xs m
    have ih := evF_succ n
    show Le (evF A prim (n + 1) f xs m) (evF A prim (n + 2) f xs m)
    unfold evF
    split
    · exact Le.refl _
    · split
      · exact Le.bind (evC_mono ih (by omega) (by omega) _ _) (fun _ => Le.refl _)
      · exact Le.refl _

theorem evF_mono {n k : Nat} (h : n ≤ k) : CLe (evF A prim n) (evF A prim k) := by
  induction k with
  | zero => have : n = 0 := by omega
            subst this; exact fun _ _ _ => Le.refl _
  | succ k ih =>
    by_cases hk : n = k + 1
    · subst hk; exact fun _ _ _ => Le.refl _
    · exact fun a b c x hx => evF_succ A prim k a b c x (ih (by omega) a b c x hx)

theorem bind_some_iff' {α β : Type} {a : Option α} {f : α → Option β} {y : β} : a.bind f = some y ↔ ∃ x, a = some x ∧ f x = some y := by
  cases a <;> simp

/-- The limit of what more fuel gives. -/
noncomputable def lim {α : Type} (f : Nat → Option α) : Option α :=
  open Classical in if h : ∃ x n, f n = some x then some (Classical.choose h) else none

def Mono {α : Type} (f : Nat → Option α) : Prop := ∀ n k, n ≤ k → Le (f n) (f k)

theorem lim_iff {α : Type} {f : Nat → Option α} (hf : Mono f) (x : α) : lim f = some x ↔ ∃ n, f n = some x := by
  unfold lim
  constructor
  · intro h
    split at h
    · rename_i hex
      obtain ⟨n, hn⟩ := Classical.choose_spec hex
      exact ⟨n, by rw [hn]; exact h⟩
    · cases h
  · rintro ⟨n, hn⟩
    have hex : ∃ x n, f n = some x := ⟨x, n, hn⟩
    rw [dif_pos hex]
    obtain ⟨k, hk⟩ := Classical.choose_spec hex
    have h1 := hf n (max n k) (Nat.le_max_left _ _) _ hn
    have h2 := hf k (max n k) (Nat.le_max_right _ _) _ hk
    rw [h1] at h2
    exact h2.symm

/-- A function's answer. -/
noncomputable def ev : CallF := fun f xs m => lim fun n => evF A prim n f xs m
/-- Code's answer. -/
noncomputable def cv (c : ACode) (s : St) : Res := lim fun n => evC (evF A prim n) n n c s

theorem ev_iff (f : Nat) (xs : List V) (m : Mem) (x : V × Mem) : ev A prim f xs m = some x ↔ ∃ n, evF A prim n f xs m = some x :=
  lim_iff (fun _ _ h => evF_mono A prim h f xs m) x

theorem cv_mono (c : ACode) (s : St) : Mono fun n => evC (evF A prim n) n n c s :=
  fun _ _ h => evC_mono (evF_mono A prim h) h h c s

theorem cv_iff (c : ACode) (s : St) (x : AExit × St) : cv A prim c s = some x ↔ ∃ n, evC (evF A prim n) n n c s = some x :=
  lim_iff (cv_mono A prim c s) x

theorem evF_le_ev (n : Nat) : CLe (evF A prim n) (ev A prim) := fun f xs m x h => (ev_iff A prim f xs m x).2 ⟨n, h⟩

theorem evC_le_cv {n d : Nat} (c : ACode) (s : St) : Le (evC (evF A prim n) n d c s) (cv A prim c s) := fun x h =>
  (cv_iff A prim c s x).2 ⟨max n d, evC_mono (evF_mono A prim (Nat.le_max_left n d)) (Nat.le_max_left n d) (Nat.le_max_right n d) c s x h⟩

theorem runC_fin {p : Prim} {xs : List V} {x : V} (h : runC (ev A prim) p xs = some x) : ∃ n, runC (evF A prim n) p xs = some x := by
  cases p <;> first | exact ⟨0, h⟩ | skip
  · rename_i k
    replace h : rCallp (ev A prim) k xs = some x := h
    show ∃ n, rCallp (evF A prim n) k xs = some x
    unfold rCallp at h ⊢
    split at h
    · rename_i hc
      obtain ⟨y, h1, h2⟩ := bind_some_iff'.1 h
      obtain ⟨n, hn⟩ := (ev_iff A prim _ _ _ y).1 h1
      exact ⟨n, by rw [if_pos hc, hn]; exact h2⟩
    · cases h
  · rename_i k
    replace h : rCallf (ev A prim) k xs = some x := h
    show ∃ n, rCallf (evF A prim n) k xs = some x
    unfold rCallf at h ⊢
    split at h
    · rename_i hc
      obtain ⟨y, h1, h2⟩ := bind_some_iff'.1 h
      obtain ⟨n, hn⟩ := (ev_iff A prim _ _ _ y).1 h1
      exact ⟨n, by rw [if_pos hc, hn]; exact h2⟩
    · cases h

/-- Operations need but finitely much of what is called. -/
theorem runW_fin {p : Prim} {d : Option Nat} {xs : List V} {m : Mem} {x : V × Mem} (h : runW (ev A prim) p d xs m = some x) :
    ∃ n, runW (evF A prim n) p d xs m = some x := by
  cases p <;> first | exact ⟨0, h⟩ | skip
  · exact (ev_iff A prim _ _ _ x).1 h
  · rename_i k
    replace h : rCallt (ev A prim) k d xs m = some x := h
    obtain ⟨y, h1, h2⟩ := Option.map_eq_some_iff.1 h
    obtain ⟨n, hn⟩ := runC_fin A prim (p := .callp k) (x := y) h1
    replace hn : rCallp (evF A prim n) k xs = some y := hn
    exact ⟨n, by show (rCallp (evF A prim n) k xs).map _ = _; rw [hn, Option.map_some, h2]⟩
  · replace h : rCallv (ev A prim) xs m = some x := h
    show ∃ n, rCallv (evF A prim n) xs m = some x
    unfold rCallv at h ⊢
    split at h
    · exact (ev_iff A prim _ _ _ x).1 h
    · cases h
  · rename_i k
    replace h : rCallz (ev A prim) k xs m = some x := h
    show ∃ n, rCallz (evF A prim n) k xs m = some x
    unfold rCallz at h ⊢
    split at h
    · rename_i hc
      obtain ⟨y, h1, h2⟩ := bind_some_iff'.1 h
      obtain ⟨n, hn⟩ := (ev_iff A prim _ _ _ y).1 h1
      exact ⟨n, by rw [if_pos hc, hn]; exact h2⟩
    · cases h

theorem exec_fin {o : AOp} {s s' : St} (h : o.exec (ev A prim) s = some s') : ∃ n, o.exec (evF A prim n) s = some s' := by
  unfold AOp.exec Prim.run at h ⊢
  split at h
  · exact ⟨0, h⟩
  · exact ⟨0, h⟩
  · cases hr : runC (ev A prim) o.pr (o.args.map (readArg s.env)) with
    | none => rw [hr] at h; cases h
    | some x =>
      obtain ⟨n, hn⟩ := runC_fin A prim hr
      exact ⟨n, by rw [hn]; rw [hr] at h; exact h⟩
  · cases hr : runW (ev A prim) o.pr o.dst (o.args.map (readArg s.env)) s.mem with
    | none => rw [hr] at h; cases h
    | some x =>
      obtain ⟨n, hn⟩ := runW_fin A prim hr
      exact ⟨n, by rw [hn]; rw [hr] at h; exact h⟩

theorem evOp_fin {o : AOp} {s s' : St} (h : evOp (ev A prim) o s = some s') : ∃ n, evOp (evF A prim n) o s = some s' := by
  unfold evOp at h ⊢
  split at h
  · exact exec_fin A prim h
  · split at h
    · rename_i c _
      revert h
      cases (c == _) with
      | true => exact fun h => exec_fin A prim h
      | false => exact fun h => ⟨0, h⟩
    · exact ⟨0, h⟩
    · cases h

theorem evOps_fin : ∀ {l : List AOp} {s s' : St}, evOps (ev A prim) l s = some s' → ∃ n, evOps (evF A prim n) l s = some s'
  | [], _, _, h => ⟨0, h⟩
  | o :: r, s, s', h => by
    unfold evOps at h
    cases h1 : evOp (ev A prim) o s with
    | none => rw [h1] at h; cases h
    | some s1 =>
      rw [h1] at h
      obtain ⟨n, hn⟩ := evOp_fin A prim h1
      obtain ⟨k, hk⟩ := evOps_fin h
      refine ⟨max n k, ?_⟩
      unfold evOps
      rw [evOp_mono (evF_mono A prim (Nat.le_max_left n k)) o s s1 hn]
      exact evOps_mono (evF_mono A prim (Nat.le_max_right n k)) r s1 s' hk

theorem opt_ext {α : Type} {a b : Option α} (h : ∀ x, a = some x ↔ b = some x) : a = b := by
  cases a with
  | none =>
    cases b with
    | none => rfl
    | some y => exact absurd ((h y).2 rfl) (by simp)
  | some x => exact ((h x).1 rfl).symm

theorem bind_some_iff {α β : Type} {a : Option α} {f : α → Option β} {y : β} : a.bind f = some y ↔ ∃ x, a = some x ∧ f x = some y := by
  cases a <;> simp

theorem cv_skip (s : St) : cv A prim .skip s = some (.normal, s) := (cv_iff A prim _ _ _).2 ⟨1, rfl⟩
theorem cv_exit (id : Nat) (s : St) : cv A prim (.exit id) s = some (.exit id, s) := (cv_iff A prim _ _ _).2 ⟨1, rfl⟩
theorem cv_goto (l : Nat) (s : St) : cv A prim (.goto l) s = some (.goto l, s) := (cv_iff A prim _ _ _).2 ⟨1, rfl⟩
theorem cv_label (l : Nat) (s : St) : cv A prim (.label l) s = some (.normal, s) := (cv_iff A prim _ _ _).2 ⟨1, rfl⟩
theorem cv_ret (s : St) : cv A prim .ret s = some (.ret, s) := (cv_iff A prim _ _ _).2 ⟨1, rfl⟩

theorem cv_ops (l : List AOp) (cl dr : List Nat) (s : St) : cv A prim (.ops l cl dr) s =
    (evOps (ev A prim) l s).bind fun s' => (dropAll dr { s' with env := eraseAll cl s'.env }).map fun s'' => (.normal, s'') := by
  refine opt_ext fun x => ?_
  rw [cv_iff, bind_some_iff]
  constructor
  · rintro ⟨n, hn⟩
    cases n with
    | zero => cases hn
    | succ n =>
      unfold evC at hn
      obtain ⟨s', h1, h2⟩ := bind_some_iff.1 hn
      exact ⟨s', evOps_mono (evF_le_ev A prim _) l s s' h1, h2⟩
  · rintro ⟨s', h1, h2⟩
    obtain ⟨n, hn⟩ := evOps_fin A prim h1
    refine ⟨n + 1, ?_⟩
    unfold evC
    rw [evOps_mono (evF_mono A prim (Nat.le_succ n)) l s s' hn]
    exact h2

theorem evOpsAll_fin {l : List AOp} {s s' : St} : ∀ {ys : List (List Nat)}, (∀ y ∈ ys, evOps (ev A prim) (pickOps l y) s = some s') → ∃ n, ∀ y ∈ ys, evOps (evF A prim n) (pickOps l y) s = some s'
  | [], _ => ⟨0, by simp⟩
  | y :: r, h => by
    obtain ⟨n, hn⟩ := evOps_fin A prim (h y (by simp))
    obtain ⟨k, hk⟩ := evOpsAll_fin (ys := r) fun z hz => h z (by simp [hz])
    refine ⟨max n k, fun z hz => ?_⟩
    rcases List.mem_cons.1 hz with rfl | hz
    · exact evOps_mono (evF_mono A prim (Nat.le_max_left n k)) _ s s' hn
    · exact evOps_mono (evF_mono A prim (Nat.le_max_right n k)) _ s s' (hk z hz)

theorem cv_opsd (l : List AOp) (D : List Nat) (alts : List (List Nat)) (cl dr : List Nat) (s : St) : cv A prim (.opsd l D alts cl dr) s =
    (evOpsD (ev A prim) l alts s).bind fun s' => (dropAll dr { s' with env := eraseAll cl s'.env }).map fun s'' => (.normal, s'') := by
  refine opt_ext fun x => ?_
  rw [cv_iff, bind_some_iff]
  constructor
  · rintro ⟨n, hn⟩
    cases n with
    | zero => cases hn
    | succ n =>
      unfold evC at hn
      obtain ⟨s', h1, h2⟩ := bind_some_iff.1 hn
      exact ⟨s', evOpsD_mono (evF_le_ev A prim _) l alts s s' h1, h2⟩
  · rintro ⟨s', h1, h2⟩
    obtain ⟨h3, h4⟩ := evOpsD_some.1 h1
    obtain ⟨n, hn⟩ := evOps_fin A prim h3
    obtain ⟨k, hk⟩ := evOpsAll_fin A prim h4
    refine ⟨max n k + 1, ?_⟩
    unfold evC
    rw [evOpsD_some.2 ⟨evOps_mono (evF_mono A prim (by omega)) l s s' hn, fun y hy => evOps_mono (evF_mono A prim (by omega)) _ s s' (hk y hy)⟩]
    exact h2

theorem cv_clr (cl dr : List Nat) (b : ACode) (s : St) : cv A prim (.clr cl dr b) s = (dropAll dr { s with env := eraseAll cl s.env }).bind (cv A prim b) := by
  refine opt_ext fun x => ?_
  rw [cv_iff, bind_some_iff]
  constructor
  · rintro ⟨n, hn⟩
    cases n with
    | zero => cases hn
    | succ n =>
      unfold evC at hn
      obtain ⟨y, h1, h2⟩ := bind_some_iff.1 hn
      exact ⟨y, h1, evC_le_cv A prim b y _ h2⟩
  · rintro ⟨y, h1, h2⟩
    obtain ⟨n, hn⟩ := (cv_iff A prim _ _ _).1 h2
    refine ⟨n + 1, ?_⟩
    unfold evC
    rw [h1]
    exact evC_mono (evF_mono A prim (by omega)) (by omega) (Nat.le_refl n) b y _ hn

theorem cv_seq (a b : ACode) (s : St) : cv A prim (.seq a b) s = (cv A prim a s).bind fun (e, s') => match e with
    | .normal => cv A prim b s'
    | e => some (e, s') := by
  refine opt_ext fun x => ?_
  rw [cv_iff, bind_some_iff]
  constructor
  · rintro ⟨n, hn⟩
    cases n with
    | zero => cases hn
    | succ n =>
      unfold evC at hn
      obtain ⟨⟨e, s'⟩, h1, h2⟩ := bind_some_iff.1 hn
      refine ⟨(e, s'), evC_le_cv A prim a s _ h1, ?_⟩
      cases e with
      | normal => exact evC_le_cv A prim b s' x h2
      | _ => exact h2
  · rintro ⟨⟨e, s'⟩, h1, h2⟩
    obtain ⟨n, hn⟩ := (cv_iff A prim _ _ _).1 h1
    cases e with
    | normal =>
      obtain ⟨k, hk⟩ := (cv_iff A prim _ _ _).1 h2
      refine ⟨max n k + 1, ?_⟩
      unfold evC
      rw [evC_mono (evF_mono A prim (by omega)) (by omega) (Nat.le_max_left n k) a s _ hn]
      exact evC_mono (evF_mono A prim (by omega)) (by omega) (Nat.le_max_right n k) b s' x hk
    | _ =>
      refine ⟨n + 1, ?_⟩
      unfold evC
      rw [evC_mono (evF_mono A prim (by omega)) (by omega) (Nat.le_refl n) a s _ hn]
      exact h2

theorem cv_cond (c : AArg) (a b : ACode) (s : St) : cv A prim (.cond c a b) s = (match readArg s.env c with
    | .bool t => bif t then cv A prim a s else cv A prim b s
    | _ => none) := by
  refine opt_ext fun x => ?_
  rw [cv_iff]
  cases hc : readArg s.env c with
  | bool t =>
    constructor
    · rintro ⟨n, hn⟩
      cases n with
      | zero => cases hn
      | succ n =>
        unfold evC at hn
        rw [hc] at hn
        cases t with
        | true => exact evC_le_cv A prim a s x hn
        | false => exact evC_le_cv A prim b s x hn
    · intro h
      cases t with
      | true =>
        obtain ⟨n, hn⟩ := (cv_iff A prim a s x).1 h
        refine ⟨n + 1, ?_⟩
        unfold evC
        rw [hc]
        exact evC_mono (evF_mono A prim (by omega)) (by omega) (Nat.le_refl n) a s _ hn
      | false =>
        obtain ⟨n, hn⟩ := (cv_iff A prim b s x).1 h
        refine ⟨n + 1, ?_⟩
        unfold evC
        rw [hc]
        exact evC_mono (evF_mono A prim (by omega)) (by omega) (Nat.le_refl n) b s _ hn
  | _ =>
    constructor
    · rintro ⟨n, hn⟩
      cases n with
      | zero => cases hn
      | succ n => unfold evC at hn; rw [hc] at hn; cases hn
    · intro h; cases h

theorem cv_block (id : Nat) (b : ACode) (s : St) : cv A prim (.block id b) s = (cv A prim b s).bind (blockExit id) := by
  refine opt_ext fun x => ?_
  rw [cv_iff, bind_some_iff]
  constructor
  · rintro ⟨n, hn⟩
    cases n with
    | zero => cases hn
    | succ n =>
      unfold evC at hn
      obtain ⟨y, h1, h2⟩ := bind_some_iff.1 hn
      exact ⟨y, evC_le_cv A prim b s _ h1, h2⟩
  · rintro ⟨y, h1, h2⟩
    obtain ⟨n, hn⟩ := (cv_iff A prim _ _ _).1 h1
    refine ⟨n + 1, ?_⟩
    unfold evC
    rw [evC_mono (evF_mono A prim (by omega)) (by omega) (Nat.le_refl n) b s _ hn]
    exact h2

theorem cv_loop (b : ACode) (s : St) : cv A prim (.loop b) s = (cv A prim b s).bind fun (e, s') => match e with
    | .normal => cv A prim (.loop b) s'
    | e => some (e, s') := by
  refine opt_ext fun x => ?_
  rw [cv_iff, bind_some_iff]
  constructor
  · rintro ⟨n, hn⟩
    cases n with
    | zero => cases hn
    | succ n =>
      unfold evC iterL at hn
      obtain ⟨⟨e, s'⟩, h1, h2⟩ := bind_some_iff.1 hn
      refine ⟨(e, s'), evC_le_cv A prim b s _ h1, ?_⟩
      cases e with
      | normal =>
        refine (cv_iff A prim _ _ _).2 ⟨n + 1, ?_⟩
        unfold evC
        exact iterL_mono (fun _ => Le.refl _) (Nat.le_succ n) s' x h2
      | _ => exact h2
  · rintro ⟨⟨e, s'⟩, h1, h2⟩
    obtain ⟨n, hn⟩ := (cv_iff A prim _ _ _).1 h1
    cases e with
    | normal =>
      obtain ⟨k, hk⟩ := (cv_iff A prim _ _ _).1 h2
      cases k with
      | zero => cases hk
      | succ k =>
        unfold evC at hk
        refine ⟨max n k + 2, ?_⟩
        unfold evC iterL
        rw [evC_mono (evF_mono A prim (k := max n k + 2) (by omega)) (by omega) (by omega) b s _ hn]
        exact iterL_mono (fun s => evC_mono (evF_mono A prim (by omega)) (by omega) (by omega) b s) (by omega) s' x hk
    | _ =>
      refine ⟨n + 1, ?_⟩
      unfold evC iterL
      rw [evC_mono (evF_mono A prim (k := n + 1) (by omega)) (by omega) (by omega) b s _ hn]
      exact h2

/-- What becomes of a scope's code behind its first way out. -/
noncomputable def cj (b : ACode) (r : Res) : Res := lim fun n => iterS (fun l s' => (findL b l).map fun rest => evC (evF A prim n) n n rest s') n r

theorem cj_run_mono (b : ACode) {n k d e : Nat} (h : n ≤ k) (hd : d ≤ e) (l : Nat) (s : St) (r : Res) (hr : (findL b l).map (fun rest => evC (evF A prim n) n d rest s) = some r) :
    ∃ r', (findL b l).map (fun rest => evC (evF A prim k) k e rest s) = some r' ∧ Le r r' := by
  cases hf : findL b l with
  | none => simp [hf] at hr
  | some rest =>
    simp only [hf, Option.map_some, Option.some.injEq] at hr
    subst hr
    exact ⟨_, rfl, evC_mono (evF_mono A prim h) h hd rest s⟩

theorem cj_iff (b : ACode) (r : Res) (x : AExit × St) : cj A prim b r = some x ↔ ∃ n, iterS (fun l s' => (findL b l).map fun rest => evC (evF A prim n) n n rest s') n r = some x :=
  lim_iff (fun _ _ h => iterS_mono (fun l s r hr => cj_run_mono A prim b h h l s r hr) h (Le.refl r)) x

theorem cj_none (b : ACode) : cj A prim b none = none := by
  refine opt_ext fun x => ?_
  rw [cj_iff]
  constructor
  · rintro ⟨n, hn⟩
    cases n <;> cases hn
  · intro h; cases h

theorem cj_some (b : ACode) (e : AExit) (s : St) : cj A prim b (some (e, s)) = match e with
    | .goto l => (match findL b l with | some rest => cj A prim b (cv A prim rest s) | none => none)
    | e => some (e, s) := by
  refine opt_ext fun x => ?_
  rw [cj_iff]
  cases e with
  | goto l =>
    constructor
    · rintro ⟨n, hn⟩
      cases n with
      | zero => cases hn
      | succ n =>
        unfold iterS at hn
        simp only [Option.bind_some] at hn
        cases hf : findL b l with
        | none => simp [hf] at hn
        | some rest =>
          simp only [hf, Option.map_some, Option.bind_some] at hn
          simp only [hf]
          show cj A prim b (cv A prim rest s) = some x
          refine (cj_iff A prim b _ x).2 ⟨n + 1, ?_⟩
          exact iterS_mono (fun l s r hr => ⟨r, hr, Le.refl r⟩) (Nat.le_succ n) (evC_le_cv A prim rest s) x hn
    · intro h
      replace h : (match findL b l with | some rest => cj A prim b (cv A prim rest s) | none => none) = some x := h
      cases hf : findL b l with
      | none => simp [hf] at h
      | some rest =>
        simp only [hf] at h
        obtain ⟨k, hk⟩ := (cj_iff A prim b _ x).1 h
        cases hr : cv A prim rest s with
        | none =>
          rw [hr] at hk
          cases k <;> cases hk
        | some y =>
          obtain ⟨n, hn⟩ := (cv_iff A prim rest s y).1 hr
          refine ⟨max n k + 1, ?_⟩
          unfold iterS
          simp only [Option.bind_some, hf, Option.map_some]
          rw [hr] at hk
          rw [evC_mono (evF_mono A prim (k := max n k + 1) (by omega)) (by omega) (by omega) rest s _ hn]
          exact iterS_mono (fun l s r hr => cj_run_mono A prim b (by omega) (by omega) l s r hr) (by omega) (Le.refl _) x hk
  | _ =>
    constructor
    · rintro ⟨n, hn⟩
      cases n with
      | zero => cases hn
      | succ n => exact hn
    · intro h; exact ⟨1, h⟩

theorem cv_scope (b : ACode) (s : St) : cv A prim (.scope b) s = cj A prim b (cv A prim b s) := by
  refine opt_ext fun x => ?_
  rw [cv_iff, cj_iff]
  constructor
  · rintro ⟨n, hn⟩
    cases n with
    | zero => cases hn
    | succ n =>
      unfold evC at hn
      exact ⟨n + 1, iterS_mono (fun l s r hr => cj_run_mono A prim b (by omega) (by omega) l s r hr) (Nat.le_refl _) (evC_le_cv A prim b s) x hn⟩
  · rintro ⟨n, hn⟩
    cases hr : cv A prim b s with
    | none => rw [hr] at hn; cases n <;> cases hn
    | some y =>
      obtain ⟨k, hk⟩ := (cv_iff A prim b s y).1 hr
      refine ⟨max n k + 1, ?_⟩
      unfold evC
      rw [hr] at hn
      refine iterS_mono (fun l s r hr => cj_run_mono A prim b (by omega) (by omega) l s r hr) (by omega) (fun z hz => ?_) x hn
      cases hz
      exact evC_mono (evF_mono A prim (by omega)) (by omega) (by omega) b s _ hk

theorem ev_prim {f : Nat} (h : A f = none) (xs : List V) (m : Mem) : ev A prim f xs m = prim f xs m := by
  refine opt_ext fun x => ?_
  rw [ev_iff]
  constructor
  · rintro ⟨n, hn⟩
    cases n with
    | zero => cases hn
    | succ n => unfold evF at hn; rw [h] at hn; exact hn
  · intro hx
    exact ⟨1, by unfold evF; rw [h]; exact hx⟩

theorem ev_fn {f : Nat} {af : AFunc} (h : A f = some af) (xs : List V) (m : Mem) (hn : xs.length = af.nparams) :
    ev A prim f xs m = (cv A prim af.body { env := initEnv 0 xs, mem := [] :: m }).bind (finish af) := by
  refine opt_ext fun x => ?_
  rw [ev_iff, bind_some_iff]
  constructor
  · rintro ⟨n, hx⟩
    cases n with
    | zero => cases hx
    | succ n =>
      unfold evF at hx
      simp only [h, hn, if_true] at hx
      obtain ⟨y, h1, h2⟩ := bind_some_iff.1 hx
      exact ⟨y, evC_le_cv A prim _ _ _ h1, h2⟩
  · rintro ⟨y, h1, h2⟩
    obtain ⟨n, hy⟩ := (cv_iff A prim _ _ _).1 h1
    refine ⟨n + 1, ?_⟩
    unfold evF
    simp only [h, hn, if_true, hy, Option.bind_some]
    exact h2

end Go.Proofs.YtpajgenngpjbaaaGreat.Ev

/- What the evaluator's values stand for in the model's memory: knowledge of cells, boxes, owned rows; the frame's invariant. -/
namespace Go.Proofs.YtpajgenngpjbaaaGreat.Ev
open Go

abbrev Know := Nat → Nat → Option Value

mutual
inductive Rep (K : Know) : Value → V → Prop
  | junk (v : Value) : Rep K v .junk
  | undef : Rep K Go.undef .undef
  | bool (b : Bool) : Rep K (.bool b) (.bool b)
  | int (k : IntKind) (n : Int) : Rep K (.int k n) (.int k n)
  | str (s : List UInt8) : Rep K (.string ⟨s.toArray⟩) (.str s)
  | fl (k : FloatKind) (b : Nat) : Rep K (.float k b) (.fl k b)
  | cx (k : FloatKind) (re im : Nat) : Rep K (.complex k re im) (.cx k re im)
  | lnil (sz : Nat) (own : Bool) : Rep K (.slice none 0 0) (.list sz [] own)
  | lemp (a : Addr) (cap sz : Nat) (own : Bool) : Rep K (.slice (some a) 0 cap) (.list sz [] own)
  | list (b o cap sz : Nat) (xs : List V) (own : Bool) (vs : List Value) : xs.length ≤ cap → (∀ x ∈ xs, x.cells.length = sz) → (∀ c ∈ flat xs, okc c = true) →
      (∀ i v, vs[i]? = some v → K b (o + i) = some v) → RepL K vs (flat xs) → Rep K (.slice (some ⟨b, o, none⟩) xs.length cap) (.list sz xs own)
  | agg (cs : List Value) (vs : List V) : (∀ c ∈ vs, okc c = true) → RepL K cs vs → Rep K (.agg cs.toArray) (.agg vs)
  | nilp : Rep K (.pointer none) .nilp
  | cptr (b o : Nat) (vs : List Value) (cs : List V) : (∀ c ∈ cs, okc c = true) → (∀ i v, vs[i]? = some v → K b (o + i) = some v) → RepL K vs cs →
      Rep K (.pointer (some ⟨b, o, none⟩)) (.cptr cs)
  | func (fn : Fn) : Rep K (.func fn #[] #[]) (.func fn [] [])
  | nilf : Rep K .nilFunc .nilf
  | mnil : Rep K (.map none) .mnil
  | ifnil : Rep K .nilIface (.ifc true)
  | iface (t : TypeId) (v : Value) : Rep K (.iface t v) (.ifc false)
  | nils (sz : Nat) : Rep K (.slice none 0 0) (.nils sz)
  | emp (a : Addr) (cap sz : Nat) : Rep K (.slice (some a) 0 cap) (.emp sz)
  | fnil (sz : Nat) : Rep K (.slice none 0 0) (.full sz [])
  | full (b o sz : Nat) (xs : List V) (vs : List Value) : (∀ x ∈ xs, x.cells.length = sz) → (∀ c ∈ flat xs, okc c = true) →
      (∀ i v, vs[i]? = some v → K b (o + i) = some v) → RepL K vs (flat xs) → Rep K (.slice (some ⟨b, o, none⟩) xs.length xs.length) (.full sz xs)
inductive RepL (K : Know) : List Value → List V → Prop
  | nil : RepL K [] []
  | cons {v : Value} {x : V} {vs : List Value} {xs : List V} : Rep K v x → RepL K vs xs → RepL K (v :: vs) (x :: xs)
end

def KLe (K K' : Know) : Prop := ∀ b o v, K b o = some v → K' b o = some v

theorem Rep.mono {K K' : Know} (h : KLe K K') {v : Value} {x : V} (r : Rep K v x) : Rep K' v x := by
  refine Rep.rec (motive_1 := fun v x _ => Rep K' v x) (motive_2 := fun vs xs _ => RepL K' vs xs) ?_ ?_ ?_ ?_ ?_ ?_ ?_ ?_ ?_ ?_ ?_ ?_ ?_ ?_ ?_ ?_ ?_ ?_ ?_ ?_ ?_ ?_ ?_ ?_ r
  · exact fun v => .junk v
  · exact .undef
  · exact fun b => .bool b
  · exact fun k n => .int k n
  · exact fun s => .str s
  · exact fun k b => .fl k b
  · exact fun k a b => .cx k a b
  · exact fun sz own => .lnil sz own
  · exact fun a cap sz own => .lemp a cap sz own
  · exact fun b o cap sz xs own vs h1 h2 h3 h4 _ ih => .list b o cap sz xs own vs h1 h2 h3 (fun i v hv => h _ _ _ (h4 i v hv)) ih
  · exact fun cs vs h1 _ ih => .agg cs vs h1 ih
  · exact .nilp
  · exact fun b o vs cs h1 h2 _ ih => .cptr b o vs cs h1 (fun i v hv => h _ _ _ (h2 i v hv)) ih
  · exact fun fn => .func fn
  · exact .nilf
  · exact .mnil
  · exact .ifnil
  · exact fun t v => .iface t v
  · exact fun sz => .nils sz
  · exact fun a cap sz => .emp a cap sz
  · exact fun sz => .fnil sz
  · exact fun b o sz xs vs h2 h3 h4 _ ih => .full b o sz xs vs h2 h3 (fun i v hv => h _ _ _ (h4 i v hv)) ih
  · exact .nil
  · exact fun _ _ ih1 ih2 => .cons ih1 ih2

theorem RepL.mono {K K' : Know} (h : KLe K K') : ∀ {vs : List Value} {xs : List V}, RepL K vs xs → RepL K' vs xs
  | _, _, .nil => .nil
  | _, _, .cons r rs => .cons (r.mono h) (RepL.mono h rs)

theorem RepL.length {K : Know} : ∀ {vs : List Value} {xs : List V}, RepL K vs xs → vs.length = xs.length
  | _, _, .nil => rfl
  | _, _, .cons _ rs => by simp [RepL.length rs]

theorem RepL.get {K : Know} : ∀ {vs : List Value} {xs : List V}, RepL K vs xs → ∀ {i : Nat} {x : V}, xs[i]? = some x → ∃ v, vs[i]? = some v ∧ Rep K v x
  | _, _, .nil, i, x, h => by simp at h
  | _, _, .cons r rs, 0, x, h => by simp at h; subst h; exact ⟨_, rfl, r⟩
  | _, _, .cons r rs, i + 1, x, h => by simpa using RepL.get rs (i := i) (by simpa using h)

theorem RepL.append {K : Know} : ∀ {vs ws : List Value} {xs ys : List V}, RepL K vs xs → RepL K ws ys → RepL K (vs ++ ws) (xs ++ ys)
  | _, _, _, _, .nil, h => h
  | _, _, _, _, .cons r rs, h => .cons r (RepL.append rs h)

theorem RepL.take {K : Know} : ∀ {vs : List Value} {xs : List V}, RepL K vs xs → ∀ n, RepL K (vs.take n) (xs.take n)
  | _, _, .nil, n => by simp; exact .nil
  | _, _, .cons r rs, 0 => .nil
  | _, _, .cons r rs, n + 1 => by simp only [List.take_succ_cons]; exact .cons r (RepL.take rs n)

theorem RepL.drop {K : Know} : ∀ {vs : List Value} {xs : List V}, RepL K vs xs → ∀ n, RepL K (vs.drop n) (xs.drop n)
  | _, _, .nil, n => by simp; exact .nil
  | _, _, .cons r rs, 0 => .cons r rs
  | _, _, .cons r rs, n + 1 => by simp only [List.drop_succ_cons]; exact RepL.drop rs n

theorem Rep.strip {K : Know} {v : Value} {x : V} (h : Rep K v x) : Rep K v x.strip := by
  cases h with
  | lnil sz own => exact .lnil sz false
  | lemp a cap sz own => exact .lemp a cap sz false
  | list b o cap sz xs own vs h1 h2 h3 h4 h5 => exact .list b o cap sz xs false vs h1 h2 h3 h4 h5
  | junk v => exact .junk v
  | undef => exact .undef
  | bool b => exact .bool b
  | int k n => exact .int k n
  | str s => exact .str s
  | fl k b => exact .fl k b
  | cx k a b => exact .cx k a b
  | agg cs vs h1 h2 => exact .agg cs vs h1 h2
  | nilp => exact .nilp
  | cptr b o vs cs h1 h2 h3 => exact .cptr b o vs cs h1 h2 h3
  | func fn => exact .func fn
  | nilf => exact .nilf
  | mnil => exact .mnil
  | ifnil => exact .ifnil
  | iface t v => exact .iface t v
  | nils sz => exact .nils sz
  | emp a cap sz => exact .emp a cap sz
  | fnil sz => exact .lnil sz false
  | full b o sz xs vs h2 h3 h4 h5 => exact .list b o xs.length sz xs false vs (Nat.le_refl _) h2 h3 h4 h5

theorem Rep.own {K : Know} {v : Value} {sz : Nat} {xs : List V} {o o' : Bool} (h : Rep K v (.list sz xs o)) : Rep K v (.list sz xs o') := by
  cases h with
  | lnil sz own => exact .lnil sz o'
  | lemp a cap sz own => exact .lemp a cap sz o'
  | list b o cap sz xs own vs h1 h2 h3 h4 h5 => exact .list b o cap sz xs o' vs h1 h2 h3 h4 h5

inductive Own where
  | box (l t : Nat)
  | slot (l t i : Nat)
  | cell (l t i : Nat)
  | ret (i : Nat)
  deriving DecidableEq

def isMem : Own → Bool
  | .box .. => true
  | .cell .. => true
  | _ => false

def lowOwn (L : Nat) : Own → Prop
  | .slot l _ _ => l < L
  | .ret _ => False
  | _ => True

/-- Ghost state: which cells are known for good, where the boxes lie (and how many cells there are), who owns which block. -/
structure Gh where
  lv : Nat
  K : Know
  lam : Nat → Nat → Option (Nat × Nat)
  phi : Nat → Option Own

mutual
inductive SRep (G : Gh) : Value → V → Prop
  | data {v : Value} {x : V} : Rep G.K v x → SRep G v x
  | ptr (l t off b n : Nat) : l < G.lv → l ≠ 1 → G.lam l t = some (b, n) → SRep G (.pointer (some ⟨b, off, none⟩)) (.ptr l t off)
  | slc (l t off sz len b n off' cap : Nat) : l < G.lv → l ≠ 1 → G.lam l t = some (b, n) → len ≤ cap ∧ cap ≤ maxLen → (cap = 0 ∨ (off' = off ∧ off + cap * sz = n)) →
      SRep G (.slice (some ⟨b, off', none⟩) len cap) (.slc l t off sz len)
  | mref (t b n : Nat) : 1 < G.lv → G.lam 1 t = some (b, n) → SRep G (.map (some b)) (.mref t)
  | iref (t b n : Nat) : 1 < G.lv → G.lam 1 t = some (b, n) → SRep G (.pointer (some ⟨b, 0, none⟩)) (.iref t)
  | func (fn : Fn) (f c : List Value) (f' c' : List V) : SRepL G f f' → SRepL G c c' → SRep G (.func fn f.toArray c.toArray) (.func fn f' c')
  | tup (cs : List Value) (vs : List V) : SRepL G cs vs → SRep G (.tuple cs.toArray) (.tup vs)
  | fptr (b n : Nat) : SRep G (.pointer (some ⟨b, 0, none⟩)) (.fptr n)
  | sagg (cs : List Value) (vs : List V) : (∀ c ∈ vs, sCell c = true) → SRepL G cs vs → SRep G (.agg cs.toArray) (.sagg vs)
inductive SRepL (G : Gh) : List Value → List V → Prop
  | nil : SRepL G [] []
  | cons {v : Value} {x : V} {vs : List Value} {xs : List V} : SRep G v x → SRepL G vs xs → SRepL G (v :: vs) (x :: xs)
end

/-- Of an older ghost state all is kept that values of levels below L lean on. -/
structure GLe (G G' : Gh) : Prop where
  lv : G.lv ≤ G'.lv
  K : KLe G.K G'.K
  lam : ∀ l t p, l < G.lv → G.lam l t = some p → G'.lam l t = some p

theorem SRep.mono {G G' : Gh} (h : GLe G G') {v : Value} {x : V} (r : SRep G v x) : SRep G' v x := by
  refine SRep.rec (motive_1 := fun v x _ => SRep G' v x) (motive_2 := fun vs xs _ => SRepL G' vs xs) ?_ ?_ ?_ ?_ ?_ ?_ ?_ ?_ ?_ ?_ ?_ r
  · exact fun r => .data (r.mono h.K)
  · exact fun l t off b n hl h1 hb => .ptr l t off b n (Nat.lt_of_lt_of_le hl h.lv) h1 (h.lam l t _ hl hb)
  · exact fun l t off sz len b n off' cap hl h1 hb h2 h3 => .slc l t off sz len b n off' cap (Nat.lt_of_lt_of_le hl h.lv) h1 (h.lam l t _ hl hb) h2 h3
  · exact fun t b n hl hb => .mref t b n (Nat.lt_of_lt_of_le hl h.lv) (h.lam 1 t _ hl hb)
  · exact fun t b n hl hb => .iref t b n (Nat.lt_of_lt_of_le hl h.lv) (h.lam 1 t _ hl hb)
  · exact fun fn f c f' c' _ _ i1 i2 => .func fn f c f' c' i1 i2
  · exact fun cs vs _ i => .tup cs vs i
  · exact fun b n => .fptr b n
  · exact fun cs vs h _ i => .sagg cs vs h i
  · exact .nil
  · exact fun _ _ i1 i2 => .cons i1 i2

theorem SRepL.mono {G G' : Gh} (h : GLe G G') : ∀ {vs : List Value} {xs : List V}, SRepL G vs xs → SRepL G' vs xs
  | _, _, .nil => .nil
  | _, _, .cons r rs => .cons (r.mono h) (SRepL.mono h rs)

theorem SRepL.length {G : Gh} : ∀ {vs : List Value} {xs : List V}, SRepL G vs xs → vs.length = xs.length
  | _, _, .nil => rfl
  | _, _, .cons _ rs => by simp [SRepL.length rs]

theorem SRepL.get {G : Gh} : ∀ {vs : List Value} {xs : List V}, SRepL G vs xs → ∀ {i : Nat} {x : V}, xs[i]? = some x → ∃ v, vs[i]? = some v ∧ SRep G v x
  | _, _, .nil, i, x, h => by simp at h
  | _, _, .cons r rs, 0, x, h => by simp at h; subst h; exact ⟨_, rfl, r⟩
  | _, _, .cons r rs, i + 1, x, h => by simpa using SRepL.get rs (i := i) (by simpa using h)

theorem SRepL.append {G : Gh} : ∀ {vs ws : List Value} {xs ys : List V}, SRepL G vs xs → SRepL G ws ys → SRepL G (vs ++ ws) (xs ++ ys)
  | _, _, _, _, .nil, h => h
  | _, _, _, _, .cons r rs, h => .cons r (SRepL.append rs h)

theorem SRepL.take {G : Gh} : ∀ {vs : List Value} {xs : List V}, SRepL G vs xs → ∀ n, SRepL G (vs.take n) (xs.take n)
  | _, _, .nil, n => by simp; exact .nil
  | _, _, .cons r rs, 0 => .nil
  | _, _, .cons r rs, n + 1 => by simp only [List.take_succ_cons]; exact .cons r (SRepL.take rs n)

theorem SRepL.drop {G : Gh} : ∀ {vs : List Value} {xs : List V}, SRepL G vs xs → ∀ n, SRepL G (vs.drop n) (xs.drop n)
  | _, _, .nil, n => by simp; exact .nil
  | _, _, .cons r rs, 0 => .cons r rs
  | _, _, .cons r rs, n + 1 => by simp only [List.drop_succ_cons]; exact SRepL.drop rs n

theorem SRepL.set {G : Gh} : ∀ {vs : List Value} {xs : List V}, SRepL G vs xs → ∀ (n : Nat) {v : Value} {x : V}, SRep G v x → SRepL G (vs.set n v) (xs.set n x)
  | _, _, .nil, n, _, _, _ => by simp; exact .nil
  | _, _, .cons r rs, 0, _, _, h => .cons h rs
  | _, _, .cons r rs, n + 1, _, _, h => .cons r (SRepL.set rs n h)

theorem SRep.strip1 {G : Gh} {v : Value} {x : V} (h : SRep G v x) : SRep G v x.strip1 := by
  cases x with
  | list sz xs o =>
    cases h with
    | data r => exact .data r.strip
  | full sz xs =>
    cases h with
    | data r => exact .data r.strip
  | fptr n => exact .data (.junk _)
  | _ => exact h

theorem SRepL.strip1 {G : Gh} : ∀ {vs : List Value} {xs : List V}, SRepL G vs xs → SRepL G vs (xs.map V.strip1)
  | _, _, .nil => .nil
  | _, _, .cons r rs => .cons r.strip1 (SRepL.strip1 rs)

theorem SRep.strip {G : Gh} {v : Value} {x : V} (h : SRep G v x) : SRep G v x.strip := by
  cases h with
  | data r => exact .data r.strip
  | ptr l t off b n hl h1 hb => exact .ptr l t off b n hl h1 hb
  | slc l t off sz len b n off' cap hl h1 hb h2 h3 => exact .slc l t off sz len b n off' cap hl h1 hb h2 h3
  | mref t b n hl hb => exact .mref t b n hl hb
  | iref t b n hl hb => exact .iref t b n hl hb
  | func fn f c f' c' h1 h2 => exact .func fn f c f' c' h1 h2
  | tup cs vs h => exact .tup cs _ h.strip1
  | fptr b n => exact .data (.junk _)
  | sagg cs vs h1 h => exact .sagg cs vs h1 h

/-- What a V that is no pointer and no closure stands for, it stands for in whatever frame. -/
theorem SRep.toRep {G : Gh} {v : Value} {x : V} (h : SRep G v x) (hx : isLocal x = false) : Rep G.K v x := by
  cases h with
  | data r => exact r
  | func fn f c f' c' h1 h2 =>
    simp [isLocal] at hx
    obtain ⟨rfl, rfl⟩ := hx
    cases h1; cases h2
    exact .func fn
  | _ => simp [isLocal] at hx

/-- A value's part: itself, or a place of a tuple. -/
def comp : Value → Nat → Value
  | v, 0 => v
  | .tuple vs, i + 1 => vs.getD i Go.undef
  | v, _ => v

/-- The rows that a V owns: itself, or places of a tuple. -/
def claim : V → Nat → Option (Nat × List V)
  | .list sz xs true, 0 => some (sz, xs)
  | .fptr n, 0 => some (n, [])
  | .tup vs, i + 1 => match vs[i]? with
    | some (.list sz xs true) => some (sz, xs)
    | _ => none
  | _, _ => none

/-- No cell of so many is frozen. -/
def noFz (fz : Nat × Nat) (n : Nat) : Prop := fz = (0, 0) ∨ n ≤ fz.1

def OwnOK (G : Gh) (w : World) (o : Own) (sz : Nat) (xs : List V) (v : Value) : Prop :=
  (xs = [] ∧ ∃ base, v = .slice base 0 0) ∨
  ∃ g cap cur e fz, (v = .slice (some ⟨g, 0, none⟩) xs.length cap ∨ (v = .pointer (some ⟨g, 0, none⟩) ∧ xs = [] ∧ cap = 1 ∧ fz = (0, 0))) ∧ G.phi g = some o ∧ w.heap[g]? = some (.cells cur e fz) ∧ noFz fz cur.size ∧ cur.size = cap * sz ∧ xs.length ≤ cap ∧ cap ≤ maxLen ∧
    ∀ o, xs.length * sz ≤ o → G.K g o = none

def Claims (G : Gh) (w : World) (f : Nat → Own) (v : Value) (x : V) : Prop := ∀ i sz xs, claim x i = some (sz, xs) → OwnOK G w (f i) sz xs (comp v i)

def noClaim (x : V) : Prop := ∀ i, claim x i = none

theorem Claims.none {G : Gh} {w : World} {f : Nat → Own} {v : Value} {x : V} (h : noClaim x) : Claims G w f v x := fun i sz xs hc => by rw [h i] at hc; cases hc

theorem noClaim_strip (x : V) : noClaim x.strip := by
  intro i
  cases x with
  | list sz xs o => cases i <;> rfl
  | tup vs =>
    cases i with
    | zero => rfl
    | succ i =>
      simp only [V.strip, claim, List.getElem?_map]
      cases h : vs[i]? with
      | none => rfl
      | some y =>
        simp only [Option.map_some]
        cases y <;> rfl
  | _ => cases i <;> rfl

theorem noClaim_strip1 {x : V} (hx : ∀ vs, x ≠ .tup vs) : noClaim x.strip1 := by
  intro i
  cases x with
  | tup vs => exact absurd rfl (hx vs)
  | list sz xs o => cases i <;> rfl
  | _ => cases i <;> rfl

theorem noClaim_of {x : V} (h1 : ∀ sz xs, x ≠ .list sz xs true) (h2 : ∀ vs, x ≠ .tup vs) (h3 : ∀ n, x ≠ .fptr n) : noClaim x := by
  intro i
  cases x with
  | fptr n => exact absurd rfl (h3 n)
  | tup vs => exact absurd rfl (h2 vs)
  | list sz xs o =>
    cases o
    · cases i <;> rfl
    · exact absurd rfl (h1 sz xs)
  | _ => cases i <;> rfl

structure CellsOK (G : Gh) (w : World) (l t : Nat) (cs : List V) : Prop where
  ex : ∃ (b : Nat) (cur : Array Value) (e : TypeId) (fz : Nat × Nat), G.lam l t = some (b, cur.size) ∧ G.phi b = some (.box l t) ∧ (w.heap[b]? = some (.cells cur e fz) ∧ noFz fz cur.size) ∧ cs.length ≤ cur.size ∧
    SRepL G (cur.toList.take cs.length) cs ∧ (∀ o, G.K b o = none) ∧ ∀ i sz xs v, cs[i]? = some (.list sz xs true) → cur[i]? = some v → OwnOK G w (.cell l t i) sz xs v
  dc : ∀ c ∈ cs, dataCell l c = true

/-- A map's entries; a text's runes. -/
def ObjIs (G : Gh) (o : Option Obj) (cs : List V) : Prop :=
  (∃ (kd : Option IntKind) (ks vs : List V) (es : Array MapEntry), cs = [.mapv kd ks vs] ∧ o = some (.map es es.size) ∧ (∀ (i : Nat) (e : MapEntry), es[i]? = some e → e.born = i) ∧ RepL G.K (es.toList.map (·.key)) ks ∧ RepL G.K (es.toList.map (·.val)) vs ∧ (∀ k ∈ ks, isKey kd k = true) ∧ (∀ v ∈ vs, data v = true)) ∨
  (∃ (s : List UInt8) (pos : Nat), cs = [.siter s pos] ∧ o = some (.stringIter ⟨s.toArray⟩ pos))

structure ObjOK (G : Gh) (w : World) (t : Nat) (cs : List V) : Prop where
  ex : ∃ b n, G.lam 1 t = some (b, n) ∧ G.phi b = some (.box 1 t) ∧ (∀ o, G.K b o = none) ∧ ObjIs G w.heap[b]? cs

/-- A box without cells is dead: nothing is known of it. -/
def BoxOK (G : Gh) (w : World) (l t : Nat) (cs : List V) : Prop := (l ≠ 1 → cs ≠ [] → CellsOK G w l t cs) ∧ (l = 1 → ObjOK G w t cs)

structure Inv (G : Gh) (w : World) (M : Mem) : Prop where
  lv : G.lv = M.length
  two : 2 ≤ M.length
  kh : ∀ b o v, G.K b o = some v → w.cell? ⟨b, o, none⟩ = some v
  mem : ∀ l t cs, mget M l t = some cs → BoxOK G w l t cs
  lamBox : ∀ l t, l < M.length → mget M l t = none → G.lam l t = none
  lamL : ∀ l t p, G.lam l t = some p → p.1 < w.heap.size
  phiL : ∀ b, G.phi b ≠ none → b < w.heap.size

structure Ext (L : Nat) (G0 : Gh) (w0 : World) (G : Gh) (w : World) : Prop where
  K : KLe G0.K G.K
  lam : ∀ l t p, l < L → G0.lam l t = some p → G.lam l t = some p
  size : w0.heap.size ≤ w.heap.size
  os : w.os = w0.os
  tape : w.tape = w0.tape
  output : w.output = w0.output
  blk : ∀ b, b < w0.heap.size → (∀ o, G0.phi b = some o → isMem o = false) → w.heap[b]? = w0.heap[b]? ∧ (∀ o, G.K b o = G0.K b o) ∧ G.phi b = G0.phi b
  box : ∀ b l t, l < L → G0.phi b = some (.box l t) → ∃ t', G.phi b = some (.box l t')

theorem Ext.refl (L : Nat) (G : Gh) (w : World) : Ext L G w G w :=
  ⟨fun _ _ _ h => h, fun _ _ _ _ h => h, Nat.le_refl _, rfl, rfl, rfl, fun _ _ _ => ⟨rfl, fun _ => rfl, rfl⟩, fun _ _ t _ h => ⟨t, h⟩⟩

/-- The frame's invariant: level L, N slots; (G0, w0): as the frame was entered. -/
structure FInv (G0 : Gh) (w0 : World) (L N : Nat) (G : Gh) (a : Act) (s : St) (w : World) : Prop where
  inv : Inv G w s.mem
  lvl : s.mem.length = L + 1
  two : 2 ≤ L
  size : a.tmps.size = N
  defers : a.defers = []
  slots : ∀ t, SRep G (a.tmps.getD t Go.undef) (get s.env t)
  own : ∀ t, Claims G w (.slot L t) (a.tmps.getD t Go.undef) (get s.env t)
  ext : Ext L G0 w0 G w
  fresh0 : ∀ b o, G0.phi b = some o → lowOwn L o
  fresh : ∀ b o, G.phi b = some o → lowOwn (L + 1) o

theorem OwnOK.ready {G : Gh} {w w' : World} (hh : w'.heap = w.heap) {o : Own} {sz : Nat} {xs : List V} {v : Value} (h : OwnOK G w o sz xs v) : OwnOK G w' o sz xs v := by
  rcases h with h1 | ⟨g, cap, cur, e, fz, h1, h2, h3, h4⟩
  · exact .inl h1
  · exact .inr ⟨g, cap, cur, e, fz, h1, h2, by rw [hh]; exact h3, h4⟩

theorem BoxOK.ready {G : Gh} {w w' : World} (hh : w'.heap = w.heap) {l t : Nat} {cs : List V} (h : BoxOK G w l t cs) : BoxOK G w' l t cs := by
  refine ⟨fun hl hne => ?_, fun hl => ?_⟩
  · obtain ⟨⟨b, cur, e, fz, h1, h2, h3, h4, h5, h6, h7⟩, hd⟩ := h.1 hl hne
    exact ⟨⟨b, cur, e, fz, h1, h2, by rw [hh]; exact h3, h4, h5, h6, fun i sz xs v hc hv => (h7 i sz xs v hc hv).ready hh⟩, hd⟩
  · obtain ⟨b, n, h1, h2, h3, h4⟩ := (h.2 hl).ex
    exact ⟨b, n, h1, h2, h3, by rw [hh]; exact h4⟩

theorem FInv.ready {G0 : Gh} {w0 : World} {L N : Nat} {G : Gh} {a : Act} {s : St} {w w' : World} (h : FInv G0 w0 L N G a s w) (hh : w'.heap = w.heap) (ho : w'.os = w.os) (ht : w'.tape = w.tape)
    (hp : w'.output = w.output) : FInv G0 w0 L N G a s w' := by
  have hc : ∀ ad, w'.cell? ad = w.cell? ad := fun ad => by simp [World.cell?, hh]
  exact ⟨⟨h.inv.lv, h.inv.two, fun b o v hv => by rw [hc]; exact h.inv.kh b o v hv, fun l t cs hm => (h.inv.mem l t cs hm).ready hh, h.inv.lamBox, by rw [hh]; exact h.inv.lamL, by rw [hh]; exact h.inv.phiL⟩, h.lvl, h.two, h.size, h.defers, h.slots,
    fun t i sz xs hg => (h.own t i sz xs hg).ready hh, ⟨h.ext.K, h.ext.lam, by rw [hh]; exact h.ext.size, by rw [ho]; exact h.ext.os, by rw [ht]; exact h.ext.tape, by rw [hp]; exact h.ext.output, fun b hb hn => by rw [hh]; exact h.ext.blk b hb hn, h.ext.box⟩, h.fresh0, h.fresh⟩

end Go.Proofs.YtpajgenngpjbaaaGreat.Ev

/- Operations that read no box and make no memory: the model's step gives what the evaluator says. -/
namespace Go.Proofs.YtpajgenngpjbaaaGreat.Ev
open Go

/-! ### What a V stands for -/
section inv
variable {G : Gh} {v : Value}
theorem SRep.int_inv {k : IntKind} {n : Int} (h : SRep G v (.int k n)) : v = .int k n := by cases h with | data r => cases r; rfl
theorem SRep.bool_inv {b : Bool} (h : SRep G v (.bool b)) : v = .bool b := by cases h with | data r => cases r; rfl
theorem SRep.str_inv {s : List UInt8} (h : SRep G v (.str s)) : v = .string ⟨s.toArray⟩ := by cases h with | data r => cases r; rfl
theorem SRep.undef_inv (h : SRep G v .undef) : v = Go.undef := by cases h with | data r => cases r; rfl
theorem SRep.nilp_inv (h : SRep G v .nilp) : v = .pointer none := by cases h with | data r => cases r; rfl
theorem SRep.nils_inv {sz : Nat} (h : SRep G v (.nils sz)) : v = .slice none 0 0 := by cases h with | data r => cases r; rfl
theorem SRep.nilf_inv (h : SRep G v .nilf) : v = .nilFunc := by cases h with | data r => cases r; rfl
theorem SRep.ptr_inv {l t o : Nat} (h : SRep G v (.ptr l t o)) : ∃ b n, (l < G.lv ∧ l ≠ 1 ∧ G.lam l t = some (b, n)) ∧ v = .pointer (some ⟨b, o, none⟩) := by
  cases h with
  | data r => cases r
  | ptr l t off b n hl h1 hb => exact ⟨b, n, ⟨hl, h1, hb⟩, rfl⟩
theorem SRep.slc_inv {l t o sz len : Nat} (h : SRep G v (.slc l t o sz len)) : ∃ b n off cap, (l < G.lv ∧ l ≠ 1 ∧ G.lam l t = some (b, n)) ∧ (len ≤ cap ∧ cap ≤ maxLen) ∧ (cap = 0 ∨ (off = o ∧ o + cap * sz = n)) ∧ v = .slice (some ⟨b, off, none⟩) len cap := by
  cases h with
  | data r => cases r
  | slc l t off sz len b n off' cap hl h1 hb h2 h3 => exact ⟨b, n, off', cap, ⟨hl, h1, hb⟩, h2, h3, rfl⟩
theorem SRep.mref_inv {t : Nat} (h : SRep G v (.mref t)) : ∃ b n, G.lam 1 t = some (b, n) ∧ v = .map (some b) := by
  cases h with
  | data r => cases r
  | mref t b n hl hb => exact ⟨b, n, hb, rfl⟩
theorem SRep.iref_inv {t : Nat} (h : SRep G v (.iref t)) : ∃ b n, G.lam 1 t = some (b, n) ∧ v = .pointer (some ⟨b, 0, none⟩) := by
  cases h with
  | data r => cases r
  | iref t b n hl hb => exact ⟨b, n, hb, rfl⟩
theorem SRep.cptr_inv {cs : List V} (h : SRep G v (.cptr cs)) : ∃ b o vs, v = .pointer (some ⟨b, o, none⟩) ∧ (∀ c ∈ cs, okc c = true) ∧ (∀ i u, vs[i]? = some u → G.K b (o + i) = some u) ∧ RepL G.K vs cs := by
  cases h with | data r => cases r with | cptr b o vs cs h1 h2 h3 => exact ⟨b, o, vs, rfl, h1, h2, h3⟩
theorem SRep.agg_inv {cs : List V} (h : SRep G v (.agg cs)) : ∃ vs : List Value, v = .agg vs.toArray ∧ (∀ c ∈ cs, okc c = true) ∧ RepL G.K vs cs := by
  cases h with | data r => cases r with | agg vs cs h1 h2 => exact ⟨vs, rfl, h1, h2⟩
theorem SRep.tup_inv {cs : List V} (h : SRep G v (.tup cs)) : ∃ vs : List Value, v = .tuple vs.toArray ∧ SRepL G vs cs := by
  cases h with
  | data r => cases r
  | tup vs cs h1 => exact ⟨vs, rfl, h1⟩
theorem SRep.fptr_inv {n : Nat} (h : SRep G v (.fptr n)) : ∃ b, v = .pointer (some ⟨b, 0, none⟩) := by
  cases h with
  | data r => cases r
  | fptr b n => exact ⟨b, rfl⟩
theorem SRep.sagg_inv {cs : List V} (h : SRep G v (.sagg cs)) : ∃ vs : List Value, v = .agg vs.toArray ∧ (∀ c ∈ cs, sCell c = true) ∧ SRepL G vs cs := by
  cases h with
  | data r => cases r
  | sagg vs cs h1 h2 => exact ⟨vs, rfl, h1, h2⟩
theorem SRep.func_inv {fn : Fn} {f c : List V} (h : SRep G v (.func fn f c)) : ∃ f' c' : List Value, v = .func fn f'.toArray c'.toArray ∧ SRepL G f' f ∧ SRepL G c' c := by
  cases h with
  | data r => cases r; exact ⟨[], [], rfl, .nil, .nil⟩
  | func fn f' c' f c h1 h2 => exact ⟨f', c', rfl, h1, h2⟩
theorem Rep.list_inv {K : Know} {sz : Nat} {xs : List V} {o : Bool} (h : Rep K v (.list sz xs o)) : (xs = [] ∧ ∃ base cap, v = .slice base 0 cap ∧ (base = none → cap = 0)) ∨
    ∃ b off cap vs, v = .slice (some ⟨b, off, none⟩) xs.length cap ∧ xs.length ≤ cap ∧ (∀ x ∈ xs, x.cells.length = sz) ∧ (∀ c ∈ flat xs, okc c = true) ∧
      (∀ i u, vs[i]? = some u → K b (off + i) = some u) ∧ RepL K vs (flat xs) := by
  cases h with
  | lnil sz own => exact .inl ⟨rfl, none, 0, rfl, fun _ => rfl⟩
  | lemp a cap sz own => exact .inl ⟨rfl, some a, cap, rfl, fun h => by cases h⟩
  | list b off cap sz xs own vs h1 h2 h3 h4 h5 => exact .inr ⟨b, off, cap, vs, rfl, h1, h2, h3, h4, h5⟩
theorem SRep.list_inv {sz : Nat} {xs : List V} {o : Bool} (h : SRep G v (.list sz xs o)) : (xs = [] ∧ ∃ base cap, v = .slice base 0 cap ∧ (base = none → cap = 0)) ∨
    ∃ b off cap vs, v = .slice (some ⟨b, off, none⟩) xs.length cap ∧ xs.length ≤ cap ∧ (∀ x ∈ xs, x.cells.length = sz) ∧ (∀ c ∈ flat xs, okc c = true) ∧
      (∀ i u, vs[i]? = some u → G.K b (off + i) = some u) ∧ RepL G.K vs (flat xs) := by
  cases h with | data r => exact r.list_inv
theorem SRep.full_inv {sz : Nat} {xs : List V} (h : SRep G v (.full sz xs)) : (xs = [] ∧ v = .slice none 0 0) ∨
    ∃ b off vs, v = .slice (some ⟨b, off, none⟩) xs.length xs.length ∧ (∀ x ∈ xs, x.cells.length = sz) ∧ (∀ c ∈ flat xs, okc c = true) ∧
      (∀ i u, vs[i]? = some u → G.K b (off + i) = some u) ∧ RepL G.K vs (flat xs) := by
  cases h with
  | data r =>
    cases r with
    | fnil sz => exact .inl ⟨rfl, rfl⟩
    | full b off sz xs vs h2 h3 h4 h5 => exact .inr ⟨b, off, vs, rfl, h2, h3, h4, h5⟩
end inv

theorem SRepL.one {G : Gh} {vs : List Value} {x : V} (h : SRepL G vs [x]) : ∃ v, vs = [v] ∧ SRep G v x := by
  cases h with | cons r rs => cases rs; exact ⟨_, rfl, r⟩

theorem SRepL.one' {G : Gh} {v : Value} {xs : List V} (h : SRepL G [v] xs) : ∃ u, [u] = [v] ∧ ∃ x, xs = [x] ∧ SRep G u x := by
  cases h with | cons r rs => cases rs; exact ⟨_, rfl, _, rfl, r⟩

theorem SRepL.two {G : Gh} {v u : Value} {xs : List V} (h : SRepL G [v, u] xs) : ∃ x y, xs = [x, y] ∧ SRep G v x ∧ SRep G u y := by
  cases h with | cons r rs => cases rs with | cons q qs => cases qs; exact ⟨_, _, rfl, r, q⟩

/-! ### Rows of elements -/
theorem flat_append (xs ys : List V) : flat (xs ++ ys) = flat xs ++ flat ys := by
  induction xs with
  | nil => rfl
  | cons x r ih => simp [flat, ih]

theorem flat_length {sz : Nat} : ∀ {xs : List V}, (∀ x ∈ xs, x.cells.length = sz) → (flat xs).length = xs.length * sz
  | [], _ => by simp [flat]
  | x :: r, h => by
    simp only [flat, List.length_append, List.length_cons]
    rw [h x (by simp), flat_length (fun y hy => h y (by simp [hy])), Nat.add_mul]
    omega

theorem flat_drop {sz : Nat} : ∀ {xs : List V}, (∀ x ∈ xs, x.cells.length = sz) → ∀ n, (flat xs).drop (n * sz) = flat (xs.drop n)
  | [], _, n => by simp [flat]
  | x :: r, h, 0 => by simp
  | x :: r, h, n + 1 => by
    have hx := h x (by simp)
    simp only [flat, List.drop_succ_cons]
    rw [← flat_drop (fun y hy => h y (by simp [hy])) n]
    rw [show (n + 1) * sz = x.cells.length + n * sz by rw [hx, Nat.add_mul]; omega, ← List.drop_drop]
    simp

theorem flat_take {sz : Nat} : ∀ {xs : List V}, (∀ x ∈ xs, x.cells.length = sz) → ∀ n, (flat xs).take (n * sz) = flat (xs.take n)
  | [], _, n => by simp [flat]
  | x :: r, h, 0 => by simp [flat]
  | x :: r, h, n + 1 => by
    have hx := h x (by simp)
    simp only [flat, List.take_succ_cons]
    rw [← flat_take (fun y hy => h y (by simp [hy])) n]
    rw [show (n + 1) * sz = x.cells.length + n * sz by rw [hx, Nat.add_mul]; omega, List.take_length_add_append]

theorem flat_at {sz : Nat} {xs : List V} (h : ∀ x ∈ xs, x.cells.length = sz) {i : Nat} {x : V} (hx : xs[i]? = some x) :
    ((flat xs).drop (i * sz)).take sz = x.cells := by
  rw [flat_drop h]
  have hi : i < xs.length := (List.getElem?_eq_some_iff.1 hx).1
  have he : xs.drop i = x :: xs.drop (i + 1) := by
    rw [List.drop_eq_getElem_cons hi]
    congr 1
    exact (List.getElem?_eq_some_iff.1 hx).2
  rw [he]
  have hl := h x (List.mem_of_getElem? hx)
  simp only [flat]
  rw [← hl, List.take_left]

theorem mem_flat_of_mem {xs : List V} {x c : V} (hx : x ∈ xs) (hc : c ∈ x.cells) : c ∈ flat xs := by
  induction xs with
  | nil => cases hx
  | cons y r ih =>
    simp only [flat, List.mem_append]
    rcases List.mem_cons.1 hx with rfl | h
    · exact .inl hc
    · exact .inr (ih h)

theorem addr_add (b o n : Nat) : (⟨b, o, none⟩ : Addr).add n = ⟨b, o + n, none⟩ := by
  unfold Addr.add
  split
  · rename_i h; subst h; rfl
  · rfl

/-! ### What the operations of the evaluator claim of the model's -/
def repC : Value → V → Bool
  | .bool a, .bool b => a == b
  | .int k a, .int k' b => k == k' && a == b
  | .string a, .str b => a.data.toList == b
  | .float k a, .fl k' b => k == k' && a == b
  | .complex k a b, .cx k' c d => k == k' && a == c && b == d
  | .slice none n c, .list _ [] _ => n == 0 && c == 0
  | .slice none n c, .full _ [] => n == 0 && c == 0
  | .pointer none, .nilp => true
  | .nilFunc, .nilf => true
  | .map none, .mnil => true
  | .nilIface, .ifc true => true
  | .slice none n c, .nils _ => n == 0 && c == 0
  | .func fn f c, .func fn' f' c' => decide (fn = fn') && f.isEmpty && c.isEmpty && f'.isEmpty && c'.isEmpty
  | _, _ => false

theorem repC_sound {K : Know} {v : Value} {x : V} (h : repC v x = true) : Rep K v x := by
  unfold repC at h
  split at h
  · simp at h; subst h; exact .bool _
  · simp at h; obtain ⟨rfl, rfl⟩ := h; exact .int _ _
  · rename_i a b
    simp at h; subst h; exact .str _
  · simp at h; obtain ⟨rfl, rfl⟩ := h; exact .fl _ _
  · simp at h; obtain ⟨⟨rfl, rfl⟩, rfl⟩ := h; exact .cx _ _ _
  · simp at h; obtain ⟨rfl, rfl⟩ := h; exact .lnil _ _
  · simp at h; obtain ⟨rfl, rfl⟩ := h; exact .fnil _
  · exact .nilp
  · exact .nilf
  · exact .mnil
  · exact .ifnil
  · simp at h; obtain ⟨rfl, rfl⟩ := h; exact .nils _
  · simp at h
    obtain ⟨⟨⟨⟨rfl, rfl⟩, rfl⟩, rfl⟩, rfl⟩ := h
    exact .func _
  · cases h

def repCs : List Value → List V → Bool
  | [], [] => true
  | v :: vs, x :: xs => repC v x && okc x && repCs vs xs
  | _, _ => false

theorem repCs_sound {K : Know} : ∀ {vs : List Value} {xs : List V}, repCs vs xs = true → RepL K vs xs ∧ ∀ c ∈ xs, okc c = true
  | [], [], _ => ⟨.nil, by simp⟩
  | v :: vs, x :: xs, h => by
    simp only [repCs, Bool.and_eq_true] at h
    obtain ⟨h1, h2⟩ := repCs_sound (K := K) h.2
    refine ⟨.cons (repC_sound h.1.1) h1, fun c hc => ?_⟩
    rcases List.mem_cons.1 hc with rfl | hc
    · exact h.1.2
    · exact h2 c hc
  | [], _ :: _, h => by cases h
  | _ :: _, [], h => by cases h

def okArg : Operand → AArg → Bool
  | .tmp t, .t n => t == n
  | .tmp t, .k n => t == n
  | .const (.agg cs), .c (.agg xs) => repCs cs.toList xs
  | .const v, .c x => repC v x
  | .func f, .c (.func (.func f') [] []) => f == f'
  | _, _ => false

def okArgs : List Operand → List AArg → Bool
  | [], [] => true
  | x :: xs, a :: as => okArg x a && okArgs xs as
  | _, _ => false

/-- The operand's value in the frame is what the evaluator reads. -/
def ArgsRep (G : Gh) (ρ : Operand → Value) (e : Env) : Prop := ∀ t, SRep G (ρ (.tmp t)) (get e t)

theorem okArg_sound {G : Gh} {a : Act} {e : Env} (h : ∀ t, SRep G (a.tmps.getD t Go.undef) (get e t)) {x : Operand} {ar : AArg} (hk : okArg x ar = true) : SRep G (a.eval x) (readArg e ar) := by
  unfold okArg at hk
  split at hk
  · simp at hk; subst hk; exact (h _).strip
  · simp at hk; subst hk; exact h _
  · rename_i cs xs
    obtain ⟨h1, h2⟩ := repCs_sound (K := G.K) hk
    have := Rep.agg cs.toList xs h2 h1
    exact .data (by simpa [Act.eval, readArg] using this)
  · exact .data (repC_sound hk)
  · simp at hk; subst hk; exact .data (.func _)
  · cases hk

theorem okArgs_sound {G : Gh} {a : Act} {e : Env} (h : ∀ t, SRep G (a.tmps.getD t Go.undef) (get e t)) : ∀ {xs : List Operand} {as : List AArg}, okArgs xs as = true →
    SRepL G (xs.map a.eval) (as.map (readArg e))
  | [], [], _ => .nil
  | x :: xs, ar :: as, hk => by
    simp only [okArgs, Bool.and_eq_true] at hk
    exact .cons (okArg_sound h hk.1) (okArgs_sound h hk.2)
  | [], _ :: _, hk => by cases hk
  | _ :: _, [], hk => by cases hk

/-! ### One operation each -/
section ops
variable {P : Program} {G : Gh} {w : World}

theorem run_und {t : TypeId} {d : TypeDesc} (h : P.underlying t = some d) : (underlying t).run P w = .ok d w := by simp [underlying, program, Sem.run, h]
theorem run_info {t : TypeId} {d : TypeInfo} (h : P.info? t = some d) : (typeInfo t).run P w = .ok d w := by simp [typeInfo, program, Sem.run, h]

theorem toL (s : List UInt8) : (⟨s.toArray⟩ : ByteArray).toList = s := by rw [ByteArray.toList_eq]
theorem sizeL (s : List UInt8) : (⟨s.toArray⟩ : ByteArray).size = s.length := by simp [ByteArray.size]
theorem appL (a b : List UInt8) : (⟨a.toArray⟩ ++ ⟨b.toArray⟩ : ByteArray) = ⟨(a ++ b).toArray⟩ := by
  apply ByteArray.ext
  simp [ByteArray.data_append]

theorem s_add {t : TypeId} {x y : Operand} {a b : List UInt8} {r : V} (h : (if a.length + b.length ≤ 9223372036854775807 then some (V.str (a ++ b)) else none) = some r) :
    ∃ cv, (do eqGuard .add t x y (.string ⟨a.toArray⟩) (.string ⟨b.toArray⟩); binOp .add t (.string ⟨a.toArray⟩) (.string ⟨b.toArray⟩) : Sem Value).run P w = .ok cv w ∧ SRep G cv r := by
  by_cases hl : a.length + b.length ≤ 9223372036854775807
  · simp only [hl, if_true, Option.some.injEq] at h
    subst h
    refine ⟨.string ⟨(a ++ b).toArray⟩, ?_, .data (.str _)⟩
    have h1 : IntKind.i64.max = 9223372036854775807 := by decide
    have h2 : ¬ (((a.length + b.length : Nat) : Int) > IntKind.i64.max) := by rw [h1]; omega
    simp only [eqGuard, binOp, Op.stringOp, Sem.run_bind, sizeL, h2, if_false, appL]
    rfl
  · simp [hl] at h

theorem s_bin {op : BinOp} {t : TypeId} {x y : Operand} {a b : Value} {xs : List V} {r : V} (hs : SRepL G [a, b] xs) (h : rBin op xs = some r) :
    ∃ cv, (do eqGuard op t x y a b; binOp op t a b : Sem Value).run P w = .ok cv w ∧ SRep G cv r := by
  unfold rBin at h
  split at h
  · rename_i k a' k' b'
    cases hs with | cons ha hs => cases hs with | cons hb hs =>
    rw [ha.int_inv, hb.int_inv]
    split at h
    · rename_i hk; subst hk
      unfold intBin at h
      split at h <;> first
        | (injection h with h; subst h; exact ⟨_, by simp [eqGuard, binOp, Op.intArith, Op.intCmp]; rfl, .data (by first | exact .int _ _ | exact .bool _)⟩)
        | (by_cases hb0 : b' = 0
           · simp [hb0] at h
           · simp only [hb0, if_false, Option.some.injEq] at h
             subst h
             exact ⟨_, by simp [eqGuard, binOp, Op.intDiv, hb0] <;> rfl, .data (.int _ _)⟩)
        | cases h
    · cases h
  · rename_i a' b'
    cases hs with | cons ha hs => cases hs with | cons hb hs =>
    rw [ha.str_inv, hb.str_inv]
    unfold strBin at h
    split at h <;> first
      | (injection h with h; subst h; refine ⟨_, ?_, .data (.bool _)⟩; simp only [eqGuard, binOp, Op.stringOp, toL]; rfl)
      | (exact s_add h)
      | cases h
  · cases h

theorem s_pick {a b c : Value} {xs : List V} {r : V} (hs : SRepL G [c, a, b] xs) (h : rPick xs = some r) :
    ∃ cv, (do pure (.value (if ← asBool c then a else b)) : Sem Next).run P w = .ok (.value cv) w ∧ SRep G cv r := by
  unfold rPick at h
  split at h
  · rename_i t x y
    cases hs with | cons hc hs => cases hs with | cons ha hs => cases hs with | cons hb hs =>
    rw [hc.bool_inv]
    injection h with h
    subst h
    cases t
    · exact ⟨b, rfl, hb.strip⟩
    · exact ⟨a, rfl, ha.strip⟩
  · cases h

theorem s_not {a : Value} {xs : List V} {r : V} (hs : SRepL G [a] xs) (h : rNot xs = some r) : ∃ cv, (Op.unary .not a).run P w = .ok cv w ∧ SRep G cv r := by
  unfold rNot at h
  split at h
  · cases hs with | cons ha hs =>
    rw [ha.bool_inv]
    injection h with h; subst h
    exact ⟨_, rfl, .data (.bool _)⟩
  · cases h

theorem s_neg {a : Value} {xs : List V} {r : V} (hs : SRepL G [a] xs) (h : rNeg xs = some r) : ∃ cv, (Op.unary .neg a).run P w = .ok cv w ∧ SRep G cv r := by
  unfold rNeg at h
  split at h
  · cases hs with | cons ha hs =>
    rw [ha.int_inv]
    injection h with h; subst h
    exact ⟨_, rfl, .data (.int _ _)⟩
  · cases h

theorem run_equal_bool {t : TypeId} (ht : P.underlying t = some .bool) (p q : Bool) : (Op.equal t (.bool p) (.bool q)).run P w = .ok (p == q) w := by
  show (Op.equalIn (9999 + 1) t (.bool p) (.bool q)).run P w = _
  unfold Op.equalIn
  simp only [Sem.run_bind, run_und ht, Result.andThen_ok, Sem.run_pure]

theorem run_equal_nil {t e : TypeId} (ht : P.underlying t = some (.pointer e)) (p : Option Addr) : (Op.equal t (.pointer p) (.pointer none)).run P w = .ok p.isNone w := by
  show (Op.equalIn (9999 + 1) t (.pointer p) (.pointer none)).run P w = _
  unfold Op.equalIn
  cases p <;> simp only [Sem.run_bind, run_und ht, Result.andThen_ok, Sem.run_pure] <;> rfl

theorem s_beq {neg : Bool} {t : TypeId} {x y : Operand} {a b : Value} {xs : List V} {r : V} (ht : P.underlying t = some .bool) (hs : SRepL G [a, b] xs) (h : rBeq neg xs = some r) :
    ∃ cv, (do eqGuard (if neg then .neq else .eql) t x y a b; binOp (if neg then .neq else .eql) t a b : Sem Value).run P w = .ok cv w ∧ SRep G cv r := by
  unfold rBeq at h
  split at h
  · rename_i p q
    cases hs with | cons ha hs => cases hs with | cons hb hs =>
    rw [ha.bool_inv, hb.bool_inv]
    injection h with h; subst h
    cases neg
    · refine ⟨.bool (p == q), ?_, .data (by simpa using .bool _)⟩
      show ((do pure (.bool (← Op.equal t (.bool p) (.bool q))) : Sem Value)).run P w = _
      simp only [Sem.run_bind, run_equal_bool ht, Result.andThen_ok, Sem.run_pure]
    · refine ⟨.bool (!(p == q)), ?_, .data (by simpa using .bool _)⟩
      show ((do pure (.bool (!(← Op.equal t (.bool p) (.bool q)))) : Sem Value)).run P w = _
      simp only [Sem.run_bind, run_equal_bool ht, Result.andThen_ok, Sem.run_pure]
  · cases h

theorem s_isnil {neg : Bool} {t e : TypeId} {x y : Operand} {a : Value} {xs : List V} {r : V} (ht : P.underlying t = some (.pointer e)) (hs : SRepL G [a] xs) (h : rIsnil neg xs = some r) :
    ∃ cv, (do eqGuard (if neg then .neq else .eql) t x y a (.pointer none); binOp (if neg then .neq else .eql) t a (.pointer none) : Sem Value).run P w = .ok cv w ∧ SRep G cv r := by
  have key : ∀ (p : Option Addr), (do eqGuard (if neg then .neq else .eql) t x y (.pointer p) (.pointer none); binOp (if neg then .neq else .eql) t (.pointer p) (.pointer none) : Sem Value).run P w =
      .ok (.bool (neg ^^ p.isNone)) w := by
    intro p
    cases neg
    · show ((do pure (.bool (← Op.equal t (.pointer p) (.pointer none))) : Sem Value)).run P w = _
      simp only [Sem.run_bind, run_equal_nil ht, Result.andThen_ok, Sem.run_pure, Bool.false_bne]
    · show ((do pure (.bool (!(← Op.equal t (.pointer p) (.pointer none)))) : Sem Value)).run P w = _
      simp only [Sem.run_bind, run_equal_nil ht, Result.andThen_ok, Sem.run_pure, Bool.true_bne]
  unfold rIsnil at h
  split at h
  · cases hs with | cons ha hs =>
    rw [ha.nilp_inv]
    injection h with h; subst h
    exact ⟨_, key none, .data (.bool _)⟩
  · cases hs with | cons ha hs =>
    obtain ⟨b, _, _, rfl⟩ := ha.ptr_inv
    injection h with h; subst h
    exact ⟨_, key _, .data (.bool _)⟩
  · cases hs with | cons ha hs =>
    obtain ⟨b, o, vs, rfl, _⟩ := ha.cptr_inv
    injection h with h; subst h
    exact ⟨_, key _, .data (.bool _)⟩
  · cases h

theorem SRep.ifc_inv {v : Value} {b : Bool} (h : SRep G v (.ifc b)) : (b = true ∧ v = .nilIface) ∨ (b = false ∧ ∃ t u, v = .iface t u) := by
  cases h with
  | data r => cases r with
    | ifnil => exact .inl ⟨rfl, rfl⟩
    | iface t u => exact .inr ⟨rfl, t, u, rfl⟩

theorem s_isifc {neg : Bool} {t : TypeId} {ms : Array (String × TypeId)} {x : Operand} {a : Value} {xs : List V} {r : V} (ht : P.underlying t = some (.interface ms)) (hs : SRepL G [a] xs) (h : rIsifc neg xs = some r) :
    ∃ cv, (do eqGuard (if neg then .neq else .eql) t x (.const .nilIface) a .nilIface; binOp (if neg then .neq else .eql) t a .nilIface : Sem Value).run P w = .ok cv w ∧ SRep G cv r := by
  unfold rIsifc at h
  split at h
  · injection h with h; subst h
    cases hs with | cons ha hs =>
    have he : ∀ (v : Value) (c : Bool), (Op.equal t v .nilIface).run P w = .ok c w → (binOp (if neg then .neq else .eql) t v .nilIface).run P w = .ok (.bool (neg ^^ c)) w → ∃ cv, (do eqGuard (if neg then .neq else .eql) t x (.const .nilIface) v .nilIface; binOp (if neg then .neq else .eql) t v .nilIface : Sem Value).run P w = .ok cv w ∧ SRep G cv (.bool (neg ^^ c)) := by
      intro v c _ h2
      have hg : (eqGuard (if neg then .neq else .eql) t x (.const .nilIface) v .nilIface).run P w = .ok () w := by
        cases neg <;> cases v <;> simp [eqGuard]
      refine ⟨.bool (neg ^^ c), ?_, .data (.bool _)⟩
      simp only [Sem.run_bind, hg, Result.andThen_ok, h2]
    rcases ha.ifc_inv with ⟨rfl, rfl⟩ | ⟨rfl, u, v', rfl⟩
    · have e1 : (Op.equal t .nilIface .nilIface).run P w = .ok true w := by
        show (Op.equalIn (9999 + 1) t .nilIface .nilIface).run P w = _
        unfold Op.equalIn
        simp only [Sem.run_bind, run_und ht, Result.andThen_ok, Sem.run_pure]
      refine he _ _ e1 ?_
      cases neg
      · show ((do pure (.bool (← Op.equal t .nilIface .nilIface)) : Sem Value)).run P w = _
        simp only [Sem.run_bind, e1, Result.andThen_ok, Sem.run_pure, Bool.false_bne]
      · show ((do pure (.bool (!(← Op.equal t .nilIface .nilIface))) : Sem Value)).run P w = _
        simp only [Sem.run_bind, e1, Result.andThen_ok, Sem.run_pure, Bool.true_bne]
    · have e1 : (Op.equal t (.iface u v') .nilIface).run P w = .ok false w := by
        show (Op.equalIn (9999 + 1) t (.iface u v') .nilIface).run P w = _
        unfold Op.equalIn
        simp only [Sem.run_bind, run_und ht, Result.andThen_ok, Sem.run_pure]
      refine he _ _ e1 ?_
      cases neg
      · show ((do pure (.bool (← Op.equal t (.iface u v') .nilIface)) : Sem Value)).run P w = _
        simp only [Sem.run_bind, e1, Result.andThen_ok, Sem.run_pure, Bool.false_bne]
      · show ((do pure (.bool (!(← Op.equal t (.iface u v') .nilIface))) : Sem Value)).run P w = _
        simp only [Sem.run_bind, e1, Result.andThen_ok, Sem.run_pure, Bool.true_bne]
  · cases h

theorem run_equal_nils {t e : TypeId} (ht : P.underlying t = some (.slice e)) (b : Option Addr) (n c : Nat) : (Op.equal t (.slice b n c) (.slice none 0 0)).run P w = .ok b.isNone w := by
  show (Op.equalIn (9999 + 1) t (.slice b n c) (.slice none 0 0)).run P w = _
  unfold Op.equalIn
  cases b <;> simp only [Sem.run_bind, run_und ht, Result.andThen_ok, Sem.run_pure] <;> rfl

theorem s_isnils {neg : Bool} {t e : TypeId} {x y : Operand} {a : Value} {xs : List V} {r : V} (ht : P.underlying t = some (.slice e)) (hs : SRepL G [a] xs) (h : rIsnils neg xs = some r) :
    ∃ cv, (do eqGuard (if neg then .neq else .eql) t x y a (.slice none 0 0); binOp (if neg then .neq else .eql) t a (.slice none 0 0) : Sem Value).run P w = .ok cv w ∧ SRep G cv r := by
  have key : ∀ (b : Option Addr) (n c : Nat), (do eqGuard (if neg then .neq else .eql) t x y (.slice b n c) (.slice none 0 0); binOp (if neg then .neq else .eql) t (.slice b n c) (.slice none 0 0) : Sem Value).run P w = .ok (.bool (neg ^^ b.isNone)) w := by
    intro b n c
    have hg : (eqGuard (if neg then .neq else .eql) t x y (.slice b n c) (.slice none 0 0)).run P w = .ok () w := by
      cases neg <;> simp [eqGuard]
    simp only [Sem.run_bind, hg, Result.andThen_ok]
    cases neg
    · show ((do pure (.bool (← Op.equal t (.slice b n c) (.slice none 0 0))) : Sem Value)).run P w = _
      simp only [Sem.run_bind, run_equal_nils ht, Result.andThen_ok, Sem.run_pure, Bool.false_bne]
    · show ((do pure (.bool (!(← Op.equal t (.slice b n c) (.slice none 0 0)))) : Sem Value)).run P w = _
      simp only [Sem.run_bind, run_equal_nils ht, Result.andThen_ok, Sem.run_pure, Bool.true_bne]
  unfold rIsnils at h
  split at h
  · cases hs with | cons ha hs =>
    injection h with h; subst h
    cases ha with | data q => cases q; exact ⟨_, key none 0 0, .data (.bool _)⟩
  · cases hs with | cons ha hs =>
    injection h with h; subst h
    cases ha with | data q => cases q; exact ⟨_, key (some _) _ _, .data (.bool _)⟩
  · cases hs with | cons ha hs =>
    injection h with h; subst h
    rcases ha.list_inv with ⟨h0, _⟩ | ⟨b', off, cap, vs, rfl, _⟩
    · cases h0
    · exact ⟨_, key (some _) _ _, .data (.bool _)⟩
  · cases h

theorem idxOk_iff {i : Int} {n : Nat} : idxOk i n = true ↔ 0 ≤ i ∧ i < (n : Int) := by simp [idxOk]

theorem s_sidx {t : TypeId} {a b : Value} {xs : List V} {r : V} (ht : P.underlying t = some .string) (hs : SRepL G [a, b] xs) (h : rSidx xs = some r) :
    ∃ cv, (Instr.index t a b).run P w = .ok cv w ∧ SRep G cv r := by
  unfold rSidx at h
  split at h
  · rename_i s k i
    cases hs with | cons ha hs => cases hs with | cons hb hs =>
    rw [ha.str_inv, hb.int_inv]
    split at h
    · rename_i hi
      obtain ⟨h0, h1⟩ := idxOk_iff.1 hi
      obtain ⟨j, rfl⟩ : ∃ j : Nat, i = j := ⟨i.toNat, by omega⟩
      have hj : j < s.length := by omega
      simp only [Int.toNat_natCast, List.getElem?_eq_getElem hj, Option.map_some, Option.some.injEq] at h
      subst h
      refine ⟨_, ?_, .data (.int _ _)⟩
      have hg : (⟨s.toArray⟩ : ByteArray)[j]? = some s[j] := by
        rw [getElem?_pos _ _ (by simpa [ByteArray.size] using hj)]
        rfl
      simp [Instr.index, asIntOf, run_und ht, hg]
    · cases h
  · cases h

theorem RepL.okc_take {cs : List V} (h : ∀ c ∈ cs, okc c = true) (n : Nat) : ∀ c ∈ cs.take n, okc c = true := fun c hc => h c (List.mem_of_mem_take hc)
theorem RepL.okc_drop {cs : List V} (h : ∀ c ∈ cs, okc c = true) (n : Nat) : ∀ c ∈ cs.drop n, okc c = true := fun c hc => h c (List.mem_of_mem_drop hc)

/-- How many cells a variable of a struct's or an array's type has; none: it is one cell. -/
def aggN (d : TypeDesc) (n : Nat) : Option Nat :=
  match d with
  | .struct _ | .array _ _ => some n
  | _ => none

theorem isAgg_no {t : TypeId} {d : TypeDesc} {n : Nat} (hd : P.underlying t = some d) (hn : none = aggN d n) : (isAgg t).run P w = .ok false w := by
  simp only [isAgg, Sem.run_bind, run_und hd, Result.andThen_ok]
  cases d <;> first | rfl | (simp [aggN] at hn)
theorem isAgg_yes {t : TypeId} {d : TypeDesc} {n k : Nat} (hd : P.underlying t = some d) (hn : some k = aggN d n) : (isAgg t).run P w = .ok true w ∧ k = n := by
  simp only [isAgg, Sem.run_bind, run_und hd, Result.andThen_ok]
  cases d <;> first | (exact ⟨rfl, by simpa [aggN] using hn⟩) | (simp [aggN] at hn)

/-- Part of a row of cells. -/
theorem s_part {t : TypeId} {i : TypeInfo} {cs : List Value} {vs : List V} {off : Nat} {n : Option Nat} {r : V} (hi : P.info? t = some i) (d : TypeDesc) (hd : P.underlying t = some d)
    (hn : n = aggN d i.size) (hok : ∀ c ∈ vs, okc c = true) (hr : RepL G.K cs vs) (h : loadV n (vs.drop off) = some r) :
    ∃ cv, (part t cs.toArray off).run P w = .ok cv w ∧ SRep G cv r := by
  unfold loadV at h
  split at h
  · split at h
    · rename_i c rest he
      injection h with h; subst h
      have hx : vs[off]? = some c := by
        have := congrArg (fun l => l[0]?) he
        simpa using this
      obtain ⟨u, hu, hru⟩ := hr.get hx
      refine ⟨u, ?_, .data hru.strip⟩
      have hag : (isAgg t).run P w = .ok false w := isAgg_no hd hn
      simp [part, hag, hu]
    · cases h
  · rename_i k
    split at h
    · rename_i hk
      injection h with h; subst h
      obtain ⟨hag, hke⟩ := isAgg_yes (P := P) (w := w) hd hn
      have hsz : (sizeOf t).run P w = .ok i.size w := by simp [sizeOf, run_info hi]
      subst hke
      refine ⟨.agg ((cs.drop off).take i.size).toArray, ?_, .data (.agg _ _ (RepL.okc_take (RepL.okc_drop hok _) _) ((hr.drop _).take _))⟩
      simp only [part, Sem.run_bind, hag, Result.andThen_ok, if_true, hsz, Sem.run_pure]
      congr 2
      rw [List.extract_toArray, List.extract_eq_take_drop]
      congr 2
      omega
    · cases h

theorem s_fld {t ft : TypeId} {fs : Array Field} {f : Field} {fi off : Nat} {i : TypeInfo} {d : TypeDesc} {n : Option Nat} {a : Value} {xs : List V} {r : V} (ht : P.underlying t = some (.struct fs)) (hf : fs[fi]? = some f)
    (hft : f.type = ft) (hfo : f.offset = off) (hi : P.info? ft = some i) (hd : P.underlying ft = some d) (hn : n = aggN d i.size)
    (hs : SRepL G [a] xs) (h : rFld off n xs = some r) : ∃ cv, (Instr.field t a fi).run P w = .ok cv w ∧ SRep G cv r := by
  unfold rFld at h
  split at h
  · cases hs with | cons ha hs =>
    obtain ⟨vs, rfl, hok, hr⟩ := ha.agg_inv
    obtain ⟨cv, h1, h2⟩ := s_part (P := P) (w := w) hi d hd hn hok hr h
    refine ⟨cv, ?_, h2⟩
    subst hft hfo
    simp [Instr.field, run_und ht, hf, asAgg, h1]
  · cases h

theorem s_aidx {t e : TypeId} {n sz : Nat} {ag : Bool} {i : TypeInfo} {d : TypeDesc} {a b : Value} {xs : List V} {r : V} (ht : P.underlying t = some (.array n e)) (hi : P.info? e = some i) (hsz : i.size = sz)
    (hd : P.underlying e = some d) (hag : ag = (aggN d 0).isSome) (h1 : ag = false → sz = 1)
    (hs : SRepL G [a, b] xs) (h : rAidx n sz ag xs = some r) : ∃ cv, (Instr.index t a b).run P w = .ok cv w ∧ SRep G cv r := by
  unfold rAidx at h
  split at h
  · rename_i cs k j
    cases hs with | cons ha hs => cases hs with | cons hb hs =>
    obtain ⟨vs, rfl, hok, hr⟩ := ha.agg_inv
    rw [hb.int_inv]
    split at h
    · rename_i hj
      obtain ⟨hj, hl⟩ := hj
      obtain ⟨h0, h2⟩ := idxOk_iff.1 hj
      obtain ⟨m, rfl⟩ : ∃ m : Nat, j = m := ⟨j.toNat, by omega⟩
      have hm : m < n := by omega
      simp only [Int.toNat_natCast] at h
      have hload : loadV (if ag then some sz else none) (cs.drop (m * sz)) = some r := by
        cases ag with
        | true =>
          simp only [if_true] at h ⊢
          unfold loadV
          have : sz ≤ (cs.drop (m * sz)).length := by
            rw [List.length_drop]
            have := Nat.mul_le_mul_right sz (show m + 1 ≤ n by omega)
            rw [Nat.add_mul] at this
            omega
          simp only [this, if_true]
          exact h
        | false =>
          simp only [Bool.false_eq_true, if_false] at h ⊢
          unfold loadV
          cases hc : cs[m * sz]? with
          | none => simp [hc] at h
          | some c =>
            simp [hc] at h
            have hlt : m * sz < cs.length := (List.getElem?_eq_some_iff.1 hc).1
            rw [List.drop_eq_getElem_cons hlt]
            have := (List.getElem?_eq_some_iff.1 hc).2
            simp [this, h]
      obtain ⟨cv, h3, h4⟩ := s_part (P := P) (w := w) hi d hd (n := if ag then some sz else none) (by subst hag; subst hsz; cases d <;> rfl) hok hr hload
      refine ⟨cv, ?_, h4⟩
      have hz : (sizeOf e).run P w = .ok sz w := by simp [sizeOf, run_info hi, hsz]
      simp only [Instr.index, asIntOf, Sem.run_bind, Sem.run_pure, Result.andThen_ok, run_und ht]
      rw [if_pos ⟨by omega, by omega⟩]
      simp [hz, h3]
    · cases h
  · cases h

theorem s_iaddr {t e : TypeId} {sz : Nat} {i : TypeInfo} {a b : Value} {xs : List V} {r : V} (ht : P.underlying t = some (.slice e)) (hi : P.info? e = some i) (hsz : i.size = sz)
    (hs : SRepL G [a, b] xs) (h : rIaddr sz xs = some r) : ∃ cv, (Instr.indexAt t a b).run P w = .ok cv w ∧ SRep G cv r := by
  unfold rIaddr at h
  split at h
  · rename_i sz' ys own k j
    cases hs with | cons ha hs => cases hs with | cons hb hs =>
    rw [hb.int_inv]
    split at h
    · rename_i hj
      obtain ⟨rfl, hj⟩ := hj
      obtain ⟨h0, h2⟩ := idxOk_iff.1 hj
      obtain ⟨m, rfl⟩ : ∃ m : Nat, j = m := ⟨j.toNat, by omega⟩
      have hm : m < ys.length := by omega
      simp only [Int.toNat_natCast, List.getElem?_eq_getElem hm, Option.map_some, Option.some.injEq] at h
      subst h
      rcases ha.list_inv with ⟨rfl, _⟩ | ⟨b', off, cap, vs, rfl, hc, hl, hok, hK, hr⟩
      · simp at hm
      · refine ⟨.pointer (some ⟨b', off + m * sz, none⟩), ?_, .data (.cptr b' (off + m * sz) ((vs.drop (m * sz)).take sz) _ ?_ ?_ ?_)⟩
        · have hz : (sizeOf e).run P w = .ok sz w := by simp [sizeOf, run_info hi, hsz]
          simp only [Instr.indexAt, asIntOf, Sem.run_bind, Sem.run_pure, Result.andThen_ok, run_und ht]
          rw [if_pos ⟨by omega, by omega⟩]
          simp [hz, addr_add]
        · exact fun c hcc => hok c (mem_flat_of_mem (List.getElem_mem hm) hcc)
        · intro q u hu
          rw [List.getElem?_take] at hu
          split at hu
          · rw [List.getElem?_drop] at hu
            have := hK _ _ hu
            rw [Nat.add_assoc]; exact this
          · cases hu
        · have := ((hr.drop (m * sz)).take sz)
          rwa [flat_at hl (List.getElem?_eq_getElem hm)] at this
    · cases h
  · rename_i l t' o sz' n k j
    cases hs with | cons ha hs => cases hs with | cons hb hs =>
    rw [hb.int_inv]
    split at h
    · rename_i hj
      obtain ⟨rfl, hj⟩ := hj
      obtain ⟨h0, h2⟩ := idxOk_iff.1 hj
      obtain ⟨m, rfl⟩ : ∃ m : Nat, j = m := ⟨j.toNat, by omega⟩
      injection h with h; subst h
      obtain ⟨bb, nn, off, cap, ⟨g1, g2, g3⟩, hlc, hcap, rfl⟩ := ha.slc_inv
      rcases hcap with rfl | ⟨rfl, _⟩
      · exfalso; omega
      · refine ⟨_, ?_, .ptr l t' _ bb nn g1 g2 g3⟩
        have hz : (sizeOf e).run P w = .ok sz w := by simp [sizeOf, run_info hi, hsz]
        simp only [Instr.indexAt, asIntOf, Sem.run_bind, Sem.run_pure, Result.andThen_ok, run_und ht]
        rw [if_pos ⟨by omega, by omega⟩]
        simp [hz, addr_add]
    · cases h
  · cases h

theorem s_iaddra {t e : TypeId} {n sz : Nat} {i : TypeInfo} {a b : Value} {xs : List V} {r : V} (ht : P.underlying t = some (.array n e)) (hi : P.info? e = some i) (hsz : i.size = sz)
    (hs : SRepL G [a, b] xs) (h : rIaddra n sz xs = some r) : ∃ cv, (Instr.indexAt t a b).run P w = .ok cv w ∧ SRep G cv r := by
  have hz : (sizeOf e).run P w = .ok sz w := by simp [sizeOf, run_info hi, hsz]
  have key : ∀ b o k (m : Nat), m < n → (Instr.indexAt t (.pointer (some ⟨b, o, none⟩)) (.int k (m : Int))).run P w = .ok (.pointer (some ⟨b, o + m * sz, none⟩)) w := by
    intro b o k m hm
    simp only [Instr.indexAt, asIntOf, Sem.run_bind, Sem.run_pure, Result.andThen_ok, run_und ht, Instr.sureAddr]
    rw [if_pos ⟨by omega, by omega⟩]
    simp [hz, addr_add]
  unfold rIaddra at h
  split at h
  · rename_i cs k j
    cases hs with | cons ha hs => cases hs with | cons hb hs =>
    rw [hb.int_inv]
    obtain ⟨bb, o, vs, rfl, hok, hK, hr⟩ := ha.cptr_inv
    split at h
    · rename_i hj
      obtain ⟨h0, h2⟩ := idxOk_iff.1 hj
      obtain ⟨m, rfl⟩ : ∃ m : Nat, j = m := ⟨j.toNat, by omega⟩
      injection h with h; subst h
      refine ⟨_, key bb o k m (by omega), .data (.cptr bb (o + m * sz) (vs.drop (m * sz)) _ (RepL.okc_drop hok _) ?_ (hr.drop _))⟩
      intro q u hu
      rw [List.getElem?_drop] at hu
      rw [Nat.add_assoc]; exact hK _ _ hu
    · cases h
  · rename_i l k' o k j
    cases hs with | cons ha hs => cases hs with | cons hb hs =>
    rw [hb.int_inv]
    obtain ⟨bb, nn, hbb, rfl⟩ := ha.ptr_inv
    split at h
    · rename_i hj
      obtain ⟨h0, h2⟩ := idxOk_iff.1 hj
      obtain ⟨m, rfl⟩ : ∃ m : Nat, j = m := ⟨j.toNat, by omega⟩
      injection h with h; subst h
      exact ⟨_, key bb o k m (by omega), .ptr l k' _ bb nn hbb.1 hbb.2.1 hbb.2.2⟩
    · cases h
  · cases h

theorem s_faddr {t : TypeId} {fs : Array Field} {f : Field} {fi off : Nat} {i : TypeInfo} {a : Value} {xs : List V} {r : V} (ht : P.underlying t = some (.struct fs)) (hf : fs[fi]? = some f)
    (hfo : f.offset = off) (hi : P.info? f.type = some i) (hz : i.size ≠ 0) (hs : SRepL G [a] xs) (h : rFaddr off xs = some r) :
    ∃ cv, (Instr.fieldAt t a fi).run P w = .ok cv w ∧ SRep G cv r := by
  have key : ∀ b o, (Instr.fieldAt t (.pointer (some ⟨b, o, none⟩)) fi).run P w = .ok (.pointer (some ⟨b, o + off, none⟩)) w := by
    intro b o
    subst hfo
    have hsz : (sizeOf f.type).run P w = .ok i.size w := by simp [sizeOf, run_info hi]
    simp [Instr.fieldAt, run_und ht, hf, Instr.sureAddr, fieldPlace, hsz, hz, addr_add]
  unfold rFaddr at h
  split at h
  · cases hs with | cons ha hs =>
    obtain ⟨b, o, vs, rfl, hok, hK, hr⟩ := ha.cptr_inv
    injection h with h; subst h
    refine ⟨_, key b o, .data (.cptr b (o + off) (vs.drop off) _ (RepL.okc_drop hok _) ?_ (hr.drop _))⟩
    intro q u hu
    rw [List.getElem?_drop] at hu
    rw [Nat.add_assoc]; exact hK _ _ hu
  · rename_i l k o
    cases hs with | cons ha hs =>
    obtain ⟨b, n, hb, rfl⟩ := ha.ptr_inv
    injection h with h; subst h
    exact ⟨_, key b o, .ptr l k _ b n hb.1 hb.2.1 hb.2.2⟩
  · cases h

theorem run_loadCells {w : World} {b o : Nat} : ∀ (vs : List Value) (k : Nat) (acc : Array Value), (∀ i u, vs[i]? = some u → w.cell? ⟨b, o + (k + i), none⟩ = some u) →
    (loadCellsFrom ⟨b, o, none⟩ k vs.length acc).run P w = .ok (acc ++ vs.toArray) w
  | [], k, acc, _ => by simp [loadCellsFrom]
  | v :: vs, k, acc, h => by
    have h0 := h 0 v rfl
    have := run_loadCells vs (k + 1) (acc.push v) (fun i u hu => by
      have := h (i + 1) u (by simpa using hu)
      rw [show k + 1 + i = k + (i + 1) by omega]; exact this)
    simp only [List.length_cons, loadCellsFrom, Sem.run_bind, run_load, addr_add]
    simp only [Nat.add_zero] at h0
    rw [h0]
    simp only [Result.andThen_ok, this]
    simp

/-- A variable read at a place whose cells are known. -/
theorem s_loadAt {t : TypeId} {i : TypeInfo} {d : TypeDesc} {n : Option Nat} {b o : Nat} {vs : List Value} {cs : List V} {r : V} (hi : P.info? t = some i) (hd : P.underlying t = some d)
    (hn : n = aggN d i.size) (hK : ∀ i u, vs[i]? = some u → w.cell? ⟨b, o + i, none⟩ = some u)
    (hr : SRepL G vs cs) (h : loadV n cs = some r) (hok : n ≠ none → ∀ c ∈ cs, okc c = true) :
    ∃ cv, (Instr.loadAt t (.pointer (some ⟨b, o, none⟩))).run P w = .ok cv w ∧ SRep G cv r := by
  unfold loadV at h
  split at h
  · split at h
    · rename_i c rest
      injection h with h; subst h
      cases hr with | cons hc hr =>
      rename_i v vs
      refine ⟨v, ?_, hc.strip⟩
      have hag : (isAgg t).run P w = .ok false w := isAgg_no hd hn
      have := hK 0 v rfl
      simp only [Nat.add_zero] at this
      simp only [Instr.loadAt, Instr.sureAddr, Sem.run_bind, Sem.run_pure, Result.andThen_ok, loadVar, hag, Bool.false_eq_true, if_false, run_load, this]
    · cases h
  · rename_i k
    split at h
    · rename_i hk
      injection h with h; subst h
      obtain ⟨hag, hke⟩ := isAgg_yes (P := P) (w := w) hd hn
      have hsz : (sizeOf t).run P w = .ok i.size w := by simp [sizeOf, run_info hi]
      have hrl := hr.length
      have hl : (vs.take k).length = k := by rw [List.length_take]; omega
      have hload := run_loadCells (P := P) (w := w) (b := b) (o := o) (vs.take k) 0 #[] (fun i u hu => by
        rw [List.getElem?_take] at hu
        split at hu
        · simpa using hK i u hu
        · cases hu)
      rw [hl] at hload
      have hok' := hok (by simp)
      have hrep : RepL G.K (vs.take k) (cs.take k) := by
        have := hr.take k
        clear hload
        have hok2 : ∀ c ∈ cs.take k, isLocal c = false := fun c hc => by
          have := hok' c (List.mem_of_mem_take hc)
          simp only [okc, Bool.and_eq_true, Bool.not_eq_true'] at this
          exact this.1.2
        revert this hok2
        generalize vs.take k = a
        generalize cs.take k = b
        intro hab
        induction hab using SRepL.rec (motive_1 := fun _ _ _ => True) with
        | nil => intro _; exact .nil
        | cons h1 h2 _ ih => intro hh; exact .cons (h1.toRep (hh _ (by simp))) (ih (fun c hc => hh c (by simp [hc])))
        | data => trivial
        | ptr => trivial
        | func => trivial
        | slc => trivial
        | mref => trivial
        | iref => trivial
        | tup => trivial
        | sagg => trivial
        | fptr => trivial
      refine ⟨.agg (vs.take k).toArray, ?_, .data (.agg _ _ (RepL.okc_take hok' k) hrep)⟩
      subst hke
      simp only [Instr.loadAt, Instr.sureAddr, Sem.run_bind, Sem.run_pure, Result.andThen_ok, loadVar, hag, if_true, hsz, loadCells, hload]
      simp
    · cases h

theorem RepL.toS {G : Gh} : ∀ {vs : List Value} {xs : List V}, RepL G.K vs xs → SRepL G vs xs
  | _, _, .nil => .nil
  | _, _, .cons r rs => .cons (.data r) (RepL.toS rs)

theorem s_load {t : TypeId} {i : TypeInfo} {d : TypeDesc} {n : Option Nat} {M : Mem} {a : Value} {xs : List V} {r : V} (hI : Inv G w M) (hi : P.info? t = some i) (hd : P.underlying t = some d)
    (hn : n = aggN d i.size) (hs : SRepL G [a] xs) (h : rLoad n xs = some r) :
    ∃ cv, (Instr.loadAt t a).run P w = .ok cv w ∧ SRep G cv r := by
  unfold rLoad at h
  split at h
  · cases hs with | cons ha hs =>
    obtain ⟨b, o, vs, rfl, hok, hK, hr⟩ := ha.cptr_inv
    exact s_loadAt hi hd hn (fun i u hu => hI.kh _ _ _ (hK i u hu)) hr.toS h (fun _ => hok)
  · cases h

theorem bounds_run {isS : Bool} {len cap : Nat} {lo hi : Option Value} {l : List Value} {xs : List V} {lo' hi' : Bool} {a b : Nat} (hlo : lo'= lo.isSome) (hhi : hi' = hi.isSome)
    (hl : l = lo.toList ++ hi.toList) (hs : SRepL G l xs) (h : bounds len len lo' hi' xs = some (a, b)) (hlc : len ≤ cap) :
    (Instr.sliceBounds isS len cap lo hi none).run P w = .ok (a, b, cap) w ∧ a ≤ b ∧ b ≤ len := by
  subst hlo hhi hl
  cases lo <;> cases hi <;> simp only [Option.isSome_none, Option.isSome_some, Option.toList_none, Option.toList_some, List.nil_append, List.append_nil, List.singleton_append] at hs h
  · cases hs
    simp only [bounds, Option.some.injEq, Prod.mk.injEq] at h
    obtain ⟨rfl, rfl⟩ := h
    exact ⟨by simp [Instr.sliceBounds], by omega, by omega⟩
  · obtain ⟨v, hv, hb⟩ := hs.one'
    obtain ⟨x, rfl, hb⟩ := hb
    injection hv with hv _
    subst hv
    cases x <;> simp only [bounds] at h <;> try (cases h; done)
    rename_i k n
    split at h
    · rename_i hh
      injection h with h
      simp only [Prod.mk.injEq] at h
      obtain ⟨rfl, rfl⟩ := h
      rw [hb.int_inv]
      refine ⟨?_, by omega, by omega⟩
      simp only [Instr.sliceBounds, Sem.run_bind, Sem.run_pure, Result.andThen_ok, Instr.sliceBound, asIntOf]
      rw [Sem.run_ite, if_pos ⟨by omega, by omega⟩]
      simp
    · cases h
  · obtain ⟨v, hv, hb⟩ := hs.one'
    obtain ⟨x, rfl, hb⟩ := hb
    injection hv with hv _
    subst hv
    cases x <;> simp only [bounds] at h <;> try (cases h; done)
    rename_i k n
    split at h
    · rename_i hh
      injection h with h
      simp only [Prod.mk.injEq] at h
      obtain ⟨rfl, rfl⟩ := h
      rw [hb.int_inv]
      refine ⟨?_, by omega, by omega⟩
      simp only [Instr.sliceBounds, Sem.run_bind, Sem.run_pure, Result.andThen_ok, Instr.sliceBound, asIntOf]
      rw [Sem.run_ite, if_pos ⟨by omega, by omega⟩]
      simp
    · cases h
  · obtain ⟨x, y, rfl, ha, hb⟩ := hs.two
    cases x <;> cases y <;> simp only [bounds] at h <;> try (cases h; done)
    rename_i k n k' n'
    split at h
    · rename_i hh
      injection h with h
      simp only [Prod.mk.injEq] at h
      obtain ⟨rfl, rfl⟩ := h
      rw [ha.int_inv, hb.int_inv]
      refine ⟨?_, by omega, by omega⟩
      simp only [Instr.sliceBounds, Sem.run_bind, Sem.run_pure, Result.andThen_ok, Instr.sliceBound, asIntOf]
      rw [Sem.run_ite, if_pos ⟨by omega, by omega⟩]
      simp only [Sem.run_pure, Result.andThen_ok]
      rw [Sem.run_ite, if_pos ⟨by omega, by omega⟩]
      simp
    · cases h

theorem s_ssl {t : TypeId} {a : Value} {lo hi : Option Value} {lo' hi' : Bool} {xs : List V} {r : V} (ht : P.underlying t = some .string) (hlo : lo' = lo.isSome) (hhi : hi' = hi.isSome)
    (hs : SRepL G (a :: (lo.toList ++ hi.toList)) xs) (h : rSsl lo' hi' xs = some r) : ∃ cv, (Instr.sliceAt t a lo hi none).run P w = .ok cv w ∧ SRep G cv r := by
  unfold rSsl at h
  split at h
  · rename_i s rest
    cases hs with | cons ha hs =>
    rw [ha.str_inv]
    cases hb : bounds s.length s.length lo' hi' rest with
    | none => simp [hb] at h
    | some p =>
      obtain ⟨x, y⟩ := p
      simp only [hb, Option.map_some, Option.some.injEq] at h
      subst h
      obtain ⟨h1, h2, h3⟩ := bounds_run (P := P) (w := w) (isS := false) hlo hhi rfl hs hb (Nat.le_refl _)
      refine ⟨.string ⟨((s.take y).drop x).toArray⟩, ?_, .data (.str _)⟩
      simp only [Instr.sliceAt, Instr.slice, Sem.run_bind, run_und ht, Result.andThen_ok, sizeL, h1, Sem.run_pure, Option.isSome_none, Bool.false_eq_true, if_false]
      congr 2
      apply ByteArray.ext
      simp [ByteArray.data_extract, List.drop_take]
  · cases h

theorem s_slen {t ty : TypeId} {a : Value} {xs : List V} {r : V} (ht : P.underlying t = some .string) (hs : SRepL G [a] xs) (h : rSlen xs = some r) :
    ∃ cv, (Builtin.len_ #[t] ty #[a]).run P w = .ok cv w ∧ SRep G cv r := by
  unfold rSlen at h
  split at h
  · cases hs with | cons ha hs =>
    rw [ha.str_inv]
    injection h with h; subst h
    refine ⟨_, ?_, .data (.int _ _)⟩
    simp [Builtin.len_, run_und ht, goInt, sizeL]
  · cases h

theorem s_llen {t e ty : TypeId} {a : Value} {xs : List V} {r : V} (ht : P.underlying t = some (.slice e)) (hs : SRepL G [a] xs) (h : rLlen xs = some r) :
    ∃ cv, (Builtin.len_ #[t] ty #[a]).run P w = .ok cv w ∧ SRep G cv r := by
  unfold rLlen at h
  split at h
  · cases hs with | cons ha hs =>
    injection h with h; subst h
    rcases ha.list_inv with ⟨rfl, _, _, rfl, _⟩ | ⟨b', off, cap, vs, rfl, _⟩
    · refine ⟨.int .i64 0, ?_, .data (.int _ _)⟩
      simp [Builtin.len_, run_und ht, goInt]
    · refine ⟨_, ?_, .data (.int _ _)⟩
      simp [Builtin.len_, run_und ht, goInt]
  · cases hs with | cons ha hs =>
    injection h with h; subst h
    obtain ⟨bb, nn, off, cap, _, _, _, rfl⟩ := ha.slc_inv
    refine ⟨_, ?_, .data (.int _ _)⟩
    simp [Builtin.len_, run_und ht, goInt]
  · cases hs with | cons ha hs =>
    injection h with h; subst h
    obtain rfl := ha.nils_inv
    refine ⟨.int .i64 0, ?_, .data (.int _ _)⟩
    simp [Builtin.len_, run_und ht, goInt]
  · cases h

theorem s_ext {i : Nat} {a : Value} {xs : List V} {r : V} (hs : SRepL G [a] xs) (h : rExt i xs = some r) : ∃ cv, (Instr.extract a i).run P w = .ok cv w ∧ SRep G cv r := by
  unfold rExt at h
  split at h
  · rename_i vs
    cases hs with | cons ha hs =>
    obtain ⟨us, rfl, hr⟩ := ha.tup_inv
    cases hv : vs[i]? with
    | none => simp [hv] at h
    | some x =>
      simp [hv] at h
      subst h
      obtain ⟨u, hu, hru⟩ := hr.get hv
      exact ⟨u, by simp [Instr.extract, hu], hru.strip⟩
  · cases h

theorem notTup_some {x y : V} (h : notTup x = some y) : x = y ∧ (∀ vs, y ≠ .tup vs) ∧ ∀ n, y ≠ .fptr n := by
  cases x <;> simp [notTup] at h <;> subst h <;> exact ⟨rfl, by simp, by simp⟩

theorem s_extk {i : Nat} {a : Value} {xs : List V} {r : V} (hs : SRepL G [a] xs) (h : rExtk i xs = some r) : ∃ us : List Value, a = .tuple us.toArray ∧ ∃ vs, xs = [.tup vs] ∧ vs[i]? = some r ∧ ((∀ ys, r ≠ .tup ys) ∧ ∀ n, r ≠ .fptr n) ∧ ∃ cv, us[i]? = some cv ∧ (Instr.extract a i).run P w = .ok cv w ∧ SRep G cv r := by
  unfold rExtk at h
  split at h
  · rename_i vs
    cases hs with | cons ha hs =>
    obtain ⟨us, rfl, hr⟩ := ha.tup_inv
    obtain ⟨x, hx, h2⟩ := bind_some_iff.1 h
    obtain ⟨rfl, hnt⟩ := notTup_some h2
    obtain ⟨u, hu, hru⟩ := hr.get hx
    exact ⟨us, rfl, vs, rfl, hx, hnt, u, hu, by simp [Instr.extract, hu], hru⟩
  · cases h

theorem s_shf {op : BinOp} {t : TypeId} {x y : Operand} {a b : Value} {xs : List V} {r : V} (hs : SRepL G [a, b] xs) (h : rShf op xs = some r) :
    ∃ cv, (do eqGuard op t x y a b; binOp op t a b : Sem Value).run P w = .ok cv w ∧ SRep G cv r := by
  unfold rShf at h
  split at h
  · rename_i k a' k' b'
    cases hs with | cons ha hs => cases hs with | cons hb hs =>
    rw [ha.int_inv, hb.int_inv]
    split at h
    · cases h
    · rename_i hb0
      split at h <;> first
        | (injection h with h; subst h; refine ⟨_, ?_, .data (.int _ _)⟩; simp [eqGuard, binOp, Op.shift, hb0])
        | cases h
  · cases h

theorem s_i2s {s d : TypeId} {a : Value} {xs : List V} {r : V} (h1 : (P.underlying s).isSome = true) (h2 : P.underlying d = some .string) (hs : SRepL G [a] xs) (h : rI2s xs = some r) :
    ∃ cv, (convert s d a : Sem Value).run P w = .ok cv w ∧ SRep G cv r := by
  unfold rI2s at h
  split at h
  · injection h with h; subst h
    cases hs with | cons ha hs =>
    rename_i k n
    rw [ha.int_inv]
    refine ⟨_, run_convert_int_string w s d k n h1 h2, .data ?_⟩
    have : Rep G.K (.string ⟨(Utf8.encode n).data.toList.toArray⟩) (.str (Utf8.encode n).data.toList) := .str _
    simpa using this
  · cases h
theorem s_convi {s d : TypeId} {k : IntKind} {ds : TypeDesc} {a : Value} {xs : List V} {r : V} (h1 : P.underlying s = some ds) (h2 : P.underlying d = some (.int k)) (hs : SRepL G [a] xs) (h : rConvi k xs = some r) :
    ∃ cv, (convert s d a).run P w = .ok cv w ∧ SRep G cv r := by
  unfold rConvi at h
  split at h
  · cases hs with | cons ha hs =>
    rw [ha.int_inv]
    injection h with h; subst h
    refine ⟨_, ?_, .data (.int _ _)⟩
    simp only [convert, Sem.run_bind, run_und h1, run_und h2, Result.andThen_ok]
    cases ds <;> rfl
  · cases h

end ops
end Go.Proofs.YtpajgenngpjbaaaGreat.Ev
