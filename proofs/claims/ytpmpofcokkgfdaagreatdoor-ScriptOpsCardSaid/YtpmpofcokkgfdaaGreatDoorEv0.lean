/- The evaluator's values, environments and memories: plain definitions, no program in sight. -/
import Derived.Calls
import Derived.Orders
import Derived.ScopeJumps
namespace Go.Proofs.YtpmpofcokkgfdaaGreatDoor.Ev
open Go

/-- Values: slices by value ('own': nobody else counts on what stands behind its length), structs and arrays as rows of cells ('sagg': some of which point to boxes),
pointers into boxes of frames that stand (level, box, place; level 0: boxes that outlive their frame), pointers to rows that are never written again ('cptr'),
slices of a box's row ('slc'), maps (objects of level 1), slices behind whose length there is no room ('full'). -/
inductive V where
  | junk
  | undef
  | bool (b : Bool)
  | int (k : IntKind) (n : Int)
  | str (s : List UInt8)
  | fl (k : FloatKind) (bits : Nat)
  | cx (k : FloatKind) (re im : Nat)
  | list (sz : Nat) (xs : List V) (own : Bool)
  | agg (cs : List V)
  | sagg (cs : List V)
  | tup (vs : List V)
  | nilp
  | ptr (l t off : Nat)
  | cptr (cs : List V)
  | func (fn : Fn) (first captured : List V)
  | nilf
  | slc (l t off sz len : Nat)
  | mref (t : Nat)
  | mnil
  | ifc (isNil : Bool)
  | nils (sz : Nat)
  | emp (sz : Nat)
  | fptr (n : Nat)
  | iref (t : Nat)
  | mapv (kd : Option IntKind) (ks vs : List V)
  | siter (s : List UInt8) (pos : Nat)
  | full (sz : Nat) (xs : List V)
  deriving Inhabited

def V.strip1 : V → V
  | .list sz xs _ => .list sz xs false
  | .full sz xs => .list sz xs false
  | .fptr _ => .junk
  | v => v

def V.strip : V → V
  | .list sz xs _ => .list sz xs false
  | .full sz xs => .list sz xs false
  | .tup vs => .tup (vs.map V.strip1)
  | .fptr _ => .junk
  | v => v

def V.cells : V → List V
  | .agg cs => cs
  | .sagg cs => cs
  | v => [v]

def flat : List V → List V
  | [] => []
  | x :: r => x.cells ++ flat r

abbrev Env := List (Nat × V)

def get : Env → Nat → V
  | [], _ => .junk
  | (s, v) :: r, t => bif Nat.beq s t then v else get r t

def put : Env → Nat → V → Env
  | [], t, v => [(t, v)]
  | (s, u) :: r, t, v => bif Nat.beq s t then (t, v) :: r else bif Nat.blt t s then (t, v) :: (s, u) :: r else (s, u) :: put r t v

def erase : Env → Nat → Env
  | [], _ => []
  | (s, u) :: r, t => bif Nat.beq s t then erase r t else (s, u) :: erase r t

theorem beq_ne {s t : Nat} (h : s ≠ t) : Nat.beq s t = false := by
  rw [← Bool.not_eq_true, Nat.beq_eq]; exact h

theorem get_put (e : Env) (t : Nat) (v : V) (s : Nat) : get (put e t v) s = if s = t then v else get e s := by
  induction e with
  | nil =>
    simp only [put, get]
    by_cases h : s = t
    · subst h; simp
    · rw [beq_ne (Ne.symm h), if_neg h]; rfl
  | cons p r ih =>
    obtain ⟨q, u⟩ := p
    simp only [put]
    by_cases hq : q = t
    · subst hq
      simp only [Nat.beq_refl, cond_true, get]
      by_cases h : s = q
      · subst h; simp
      · rw [beq_ne (Ne.symm h), if_neg h]; rfl
    · rw [beq_ne hq]
      simp only [cond_false]
      cases hb : Nat.blt t q
      · simp only [cond_false, get, ih]
        by_cases h : q = s
        · subst h; simp [hq]
        · rw [beq_ne h]; rfl
      · simp only [cond_true, get]
        by_cases h : s = t
        · subst h; simp
        · rw [beq_ne (Ne.symm h), if_neg h]; rfl

theorem get_erase (e : Env) (t s : Nat) : get (erase e t) s = if s = t then .junk else get e s := by
  induction e with
  | nil => simp [erase, get]
  | cons p r ih =>
    obtain ⟨q, u⟩ := p
    simp only [erase]
    by_cases hq : q = t
    · subst hq
      simp only [Nat.beq_refl, cond_true, get, ih]
      by_cases h : s = q
      · subst h; simp
      · rw [if_neg h, if_neg h, beq_ne (Ne.symm h)]; rfl
    · rw [beq_ne hq]
      simp only [cond_false, get, ih]
      by_cases h : q = s
      · subst h; simp [hq]
      · rw [beq_ne h]; rfl

/-- A frame's boxes. -/
abbrev Boxes := List (Nat × List V)

def bget : Boxes → Nat → Option (List V)
  | [], _ => none
  | (s, v) :: r, t => bif Nat.beq s t then some v else bget r t

def bput : Boxes → Nat → List V → Boxes
  | [], t, v => [(t, v)]
  | (s, u) :: r, t, v => bif Nat.beq s t then (t, v) :: r else bif Nat.blt t s then (t, v) :: (s, u) :: r else (s, u) :: bput r t v

def berase : Boxes → Nat → Boxes
  | [], _ => []
  | (s, u) :: r, t => bif Nat.beq s t then berase r t else (s, u) :: berase r t

theorem bget_bput (e : Boxes) (t : Nat) (v : List V) (s : Nat) : bget (bput e t v) s = if s = t then some v else bget e s := by
  induction e with
  | nil =>
    simp only [bput, bget]
    by_cases h : s = t
    · subst h; simp
    · rw [beq_ne (Ne.symm h), if_neg h]; rfl
  | cons p r ih =>
    obtain ⟨q, u⟩ := p
    simp only [bput]
    by_cases hq : q = t
    · subst hq
      simp only [Nat.beq_refl, cond_true, bget]
      by_cases h : s = q
      · subst h; simp
      · rw [beq_ne (Ne.symm h), if_neg h]; rfl
    · rw [beq_ne hq]
      simp only [cond_false]
      cases hb : Nat.blt t q
      · simp only [cond_false, bget, ih]
        by_cases h : q = s
        · subst h; simp [hq]
        · rw [beq_ne h]; rfl
      · simp only [cond_true, bget]
        by_cases h : s = t
        · subst h; simp
        · rw [beq_ne (Ne.symm h), if_neg h]; rfl

theorem bget_berase (e : Boxes) (t s : Nat) : bget (berase e t) s = if s = t then none else bget e s := by
  induction e with
  | nil => simp [berase, bget]
  | cons p r ih =>
    obtain ⟨q, u⟩ := p
    simp only [berase]
    by_cases hq : q = t
    · subst hq
      simp only [Nat.beq_refl, cond_true, bget, ih]
      by_cases h : s = q
      · subst h; simp
      · rw [if_neg h, if_neg h, beq_ne (Ne.symm h)]; rfl
    · rw [beq_ne hq]
      simp only [cond_false, bget, ih]
      by_cases h : q = s
      · subst h; simp [hq]
      · rw [beq_ne h]; rfl

/-- The frames' boxes, the innermost frame first; a frame's level is how many stand under it. -/
abbrev Mem := List Boxes

def mget : Mem → Nat → Nat → Option (List V)
  | [], _, _ => none
  | b :: m, l, t => bif Nat.beq l m.length then bget b t else mget m l t

def mput : Mem → Nat → Nat → List V → Mem
  | [], _, _, _ => []
  | b :: m, l, t, v => bif Nat.beq l m.length then bput b t v :: m else b :: mput m l t v

theorem mput_length (m : Mem) (l t : Nat) (v : List V) : (mput m l t v).length = m.length := by
  induction m with
  | nil => rfl
  | cons b m ih => simp only [mput]; cases Nat.beq l m.length <;> simp [ih]

theorem mget_none (m : Mem) (l t : Nat) (h : m.length ≤ l) : mget m l t = none := by
  induction m with
  | nil => rfl
  | cons b m ih =>
    simp only [mget]
    rw [beq_ne (by simp at h; omega)]
    exact ih (by simp at h; omega)

theorem mget_mput (m : Mem) (l t : Nat) (v : List V) (l' t' : Nat) (h : l < m.length) :
    mget (mput m l t v) l' t' = if l' = l ∧ t' = t then some v else mget m l' t' := by
  induction m with
  | nil => simp at h
  | cons b m ih =>
    simp only [mput]
    by_cases hl : l = m.length
    · subst hl
      simp only [Nat.beq_refl, cond_true, mget]
      by_cases h' : l' = m.length
      · subst h'; simp [bget_bput]
      · rw [beq_ne h']; simp [h']
    · rw [beq_ne hl]
      have hlt : l < m.length := by simp at h; omega
      simp only [cond_false, mget, mput_length]
      by_cases h' : l' = m.length
      · subst h'; simp [Ne.symm hl]
      · rw [beq_ne h']; exact ih hlt

/-- A new box of the level 0 (objects: of the level 1), under the next number. -/
def mnew : Nat → List V → Mem → Option (Nat × Mem)
  | _, _, [] => none
  | l, cs, b :: m =>
    bif Nat.beq l m.length then
      match bget b b.length with
      | none => some (b.length, (b ++ [(b.length, cs)]) :: m)
      | some _ => none
    else (mnew l cs m).map fun (k, m') => (k, b :: m')

theorem bget_append (e : Boxes) (t : Nat) (v : List V) (s : Nat) (h : bget e t = none) : bget (e ++ [(t, v)]) s = if s = t then some v else bget e s := by
  induction e with
  | nil =>
    simp only [List.nil_append, bget]
    by_cases hs : s = t
    · subst hs; simp
    · rw [beq_ne (Ne.symm hs), if_neg hs]; rfl
  | cons p r ih =>
    obtain ⟨q, u⟩ := p
    simp only [bget] at h
    simp only [List.cons_append, bget]
    by_cases hq : q = t
    · subst hq; simp at h
    · rw [beq_ne hq] at h
      by_cases hqs : q = s
      · subst hqs; simp [hq]
      · rw [beq_ne hqs]; exact ih h

theorem mnew_spec {l : Nat} {cs : List V} : ∀ {m : Mem} {k : Nat} {m' : Mem}, mnew l cs m = some (k, m') →
    l < m.length ∧ m'.length = m.length ∧ mget m l k = none ∧ ∀ l' t', mget m' l' t' = if l' = l ∧ t' = k then some cs else mget m l' t'
  | [], k, m', h => by cases h
  | b :: m, k, m', h => by
    unfold mnew at h
    by_cases hl : l = m.length
    · subst hl
      simp only [Nat.beq_refl, cond_true] at h
      split at h
      · rename_i hb
        injection h with h; injection h with h1 h2
        subst h1 h2
        refine ⟨by simp, by simp, by simp [mget, hb], fun l' t' => ?_⟩
        simp only [mget]
        by_cases h' : l' = m.length
        · subst h'; simp [bget_append _ _ _ _ hb]
        · rw [beq_ne h']; simp [h']
      · cases h
    · rw [beq_ne hl] at h
      simp only [cond_false] at h
      obtain ⟨⟨k', m1⟩, h1, h2⟩ := Option.map_eq_some_iff.1 h
      injection h2 with e1 e2
      subst e1 e2
      obtain ⟨i1, i2, i3, i4⟩ := mnew_spec h1
      refine ⟨by simp; omega, by simp [i2], by simp only [mget]; rw [beq_ne hl]; exact i3, fun l' t' => ?_⟩
      simp only [mget, i2]
      by_cases h' : l' = m.length
      · subst h'; simp [Ne.symm hl]
      · rw [beq_ne h']; exact i4 l' t'

structure St where
  env : Env
  mem : Mem
  deriving Inhabited

end Go.Proofs.YtpmpofcokkgfdaaGreatDoor.Ev
