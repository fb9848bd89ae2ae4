/- The evaluator's values, environments and memories: plain definitions, no program in sight. -/
import Derived.Calls
import Derived.Orders
import Derived.ScopeJumps
namespace Go.Proofs.Ytgggjclhadlncaa.Ev
open Go

/-- Values: slices by value ('own': nobody else counts on what stands behind its length), structs and arrays as rows of cells,
pointers into boxes of frames that stand (level, box, place), pointers to rows that are never written again ('cptr'). -/
inductive V where
  | junk
  | undef
  | bool (b : Bool)
  | int (k : IntKind) (n : Int)
  | str (s : List UInt8)
  | fl (k : FloatKind) (bits : Nat)
  | cx (k : FloatKind) (re im : Nat)
  | list (sz : Nat) (xs : List V) (own : Bool)
  | agg (cs : List V)
  | tup (vs : List V)
  | nilp
  | ptr (l t off : Nat)
  | cptr (cs : List V)
  | func (fn : Fn) (first captured : List V)
  | nilf
  deriving Inhabited

def V.strip : V → V
  | .list sz xs _ => .list sz xs false
  | v => v

def V.cells : V → List V
  | .agg cs => cs
  | v => [v]

def flat : List V → List V
  | [] => []
  | x :: r => x.cells ++ flat r

abbrev Env := List (Nat × V)

def get : Env → Nat → V
  | [], _ => .junk
  | (s, v) :: r, t => bif Nat.beq s t then v else get r t

def put : Env → Nat → V → Env
  | [], t, v => [(t, v)]
  | (s, u) :: r, t, v => bif Nat.beq s t then (t, v) :: r else bif Nat.blt t s then (t, v) :: (s, u) :: r else (s, u) :: put r t v

def erase : Env → Nat → Env
  | [], _ => []
  | (s, u) :: r, t => bif Nat.beq s t then erase r t else (s, u) :: erase r t

theorem beq_ne {s t : Nat} (h : s ≠ t) : Nat.beq s t = false := by
  rw [← Bool.not_eq_true, Nat.beq_eq]; exact h

theorem get_put (e : Env) (t : Nat) (v : V) (s : Nat) : get (put e t v) s = if s = t then v else get e s := by
  induction e with
  | nil =>
    simp only [put, get]
    by_cases h : s = t
    · subst h; simp
    · rw [beq_ne (Ne.symm h), if_neg h]; rfl
  | cons p r ih =>
    obtain ⟨q, u⟩ := p
    simp only [put]
    by_cases hq : q = t
    · subst hq
      simp only [Nat.beq_refl, cond_true, get]
      by_cases h : s = q
      · subst h; simp
      · rw [beq_ne (Ne.symm h), if_neg h]; rfl
    · rw [beq_ne hq]
      simp only [cond_false]
      cases hb : Nat.blt t q
      · simp only [cond_false, get, ih]
        by_cases h : q = s
        · subst h; simp [hq]
        · rw [beq_ne h]; rfl
      · simp only [cond_true, get]
        by_cases h : s = t
        · subst h; simp
        · rw [beq_ne (Ne.symm h), if_neg h]; rfl

theorem get_erase (e : Env) (t s : Nat) : get (erase e t) s = if s = t then .junk else get e s := by
  induction e with
  | nil => simp [erase, get]
  | cons p r ih =>
    obtain ⟨q, u⟩ := p
    simp only [erase]
    by_cases hq : q = t
    · subst hq
      simp only [Nat.beq_refl, cond_true, get, ih]
      by_cases h : s = q
      · subst h; simp
      · rw [if_neg h, if_neg h, beq_ne (Ne.symm h)]; rfl
    · rw [beq_ne hq]
      simp only [cond_false, get, ih]
      by_cases h : q = s
      · subst h; simp [hq]
      · rw [beq_ne h]; rfl

/-- A frame's boxes. -/
abbrev Boxes := List (Nat × List V)

def bget : Boxes → Nat → Option (List V)
  | [], _ => none
  | (s, v) :: r, t => bif Nat.beq s t then some v else bget r t

def bput : Boxes → Nat → List V → Boxes
  | [], t, v => [(t, v)]
  | (s, u) :: r, t, v => bif Nat.beq s t then (t, v) :: r else bif Nat.blt t s then (t, v) :: (s, u) :: r else (s, u) :: bput r t v

def berase : Boxes → Nat → Boxes
  | [], _ => []
  | (s, u) :: r, t => bif Nat.beq s t then berase r t else (s, u) :: berase r t

theorem bget_bput (e : Boxes) (t : Nat) (v : List V) (s : Nat) : bget (bput e t v) s = if s = t then some v else bget e s := by
  induction e with
  | nil =>
    simp only [bput, bget]
    by_cases h : s = t
    · subst h; simp
    · rw [beq_ne (Ne.symm h), if_neg h]; rfl
  | cons p r ih =>
    obtain ⟨q, u⟩ := p
    simp only [bput]
    by_cases hq : q = t
    · subst hq
      simp only [Nat.beq_refl, cond_true, bget]
      by_cases h : s = q
      · subst h; simp
      · rw [beq_ne (Ne.symm h), if_neg h]; rfl
    · rw [beq_ne hq]
      simp only [cond_false]
      cases hb : Nat.blt t q
      · simp only [cond_false, bget, ih]
        by_cases h : q = s
        · subst h; simp [hq]
        · rw [beq_ne h]; rfl
      · simp only [cond_true, bget]
        by_cases h : s = t
        · subst h; simp
        · rw [beq_ne (Ne.symm h), if_neg h]; rfl

theorem bget_berase (e : Boxes) (t s : Nat) : bget (berase e t) s = if s = t then none else bget e s := by
  induction e with
  | nil => simp [berase, bget]
  | cons p r ih =>
    obtain ⟨q, u⟩ := p
    simp only [berase]
    by_cases hq : q = t
    · subst hq
      simp only [Nat.beq_refl, cond_true, bget, ih]
      by_cases h : s = q
      · subst h; simp
      · rw [if_neg h, if_neg h, beq_ne (Ne.symm h)]; rfl
    · rw [beq_ne hq]
      simp only [cond_false, bget, ih]
      by_cases h : q = s
      · subst h; simp [hq]
      · rw [beq_ne h]; rfl

/-- The frames' boxes, the innermost frame first; a frame's level is how many stand under it. -/
abbrev Mem := List Boxes

def mget : Mem → Nat → Nat → Option (List V)
  | [], _, _ => none
  | b :: m, l, t => bif Nat.beq l m.length then bget b t else mget m l t

def mput : Mem → Nat → Nat → List V → Mem
  | [], _, _, _ => []
  | b :: m, l, t, v => bif Nat.beq l m.length then bput b t v :: m else b :: mput m l t v

theorem mput_length (m : Mem) (l t : Nat) (v : List V) : (mput m l t v).length = m.length := by
  induction m with
  | nil => rfl
  | cons b m ih => simp only [mput]; cases Nat.beq l m.length <;> simp [ih]

theorem mget_none (m : Mem) (l t : Nat) (h : m.length ≤ l) : mget m l t = none := by
  induction m with
  | nil => rfl
  | cons b m ih =>
    simp only [mget]
    rw [beq_ne (by simp at h; omega)]
    exact ih (by simp at h; omega)

theorem mget_mput (m : Mem) (l t : Nat) (v : List V) (l' t' : Nat) (h : l < m.length) :
    mget (mput m l t v) l' t' = if l' = l ∧ t' = t then some v else mget m l' t' := by
  induction m with
  | nil => simp at h
  | cons b m ih =>
    simp only [mput]
    by_cases hl : l = m.length
    · subst hl
      simp only [Nat.beq_refl, cond_true, mget]
      by_cases h' : l' = m.length
      · subst h'; simp [bget_bput]
      · rw [beq_ne h']; simp [h']
    · rw [beq_ne hl]
      have hlt : l < m.length := by simp at h; omega
      simp only [cond_false, mget, mput_length]
      by_cases h' : l' = m.length
      · subst h'; simp [Ne.symm hl]
      · rw [beq_ne h']; exact ih hlt

structure St where
  env : Env
  mem : Mem
  deriving Inhabited

end Go.Proofs.Ytgggjclhadlncaa.Ev
