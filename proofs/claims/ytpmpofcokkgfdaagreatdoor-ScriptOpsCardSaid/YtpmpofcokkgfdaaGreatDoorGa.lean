/- Classes in plain Lean; what an argument of the type api.Class comes to. -/
import Derived.Test.YtpmpofcokkgfdaaGreatDoorFe
namespace Go.Proofs.YtpmpofcokkgfdaaGreatDoor.Ev
open Go
attribute [local irreducible] TyC
set_option linter.constructorNameAsVariable false

structure Ins where (o a b : Int) (c n d : List UInt8)
structure Hnd where (f t a : Int) (c : List UInt8)
structure Fld where (n d : List UInt8) (s : Bool)
structure Mth where (n d : List UInt8) (s a : Bool) (st lo : Int) (code : List Ins) (hs : List Hnd)
structure Cls where (n s : List UInt8) (i a : Bool) (im : List (List UInt8)) (fs : List Fld) (ms : List Mth)

def Ins.v (x : Ins) : V := .agg [.int .i64 x.o, .int .i64 x.a, .int .i64 x.b, .str x.c, .str x.n, .str x.d]
def Hnd.v (x : Hnd) : V := .agg [.int .i64 x.f, .int .i64 x.t, .int .i64 x.a, .str x.c]
def Fld.v (x : Fld) : V := .agg [.str x.n, .str x.d, .bool x.s]
def Mth.cells (m : Mth) : List V := [.str m.n, .str m.d, .bool m.s, .bool m.a, .int .i64 m.st, .int .i64 m.lo, .list 6 (m.code.map Ins.v) false, .list 4 (m.hs.map Hnd.v) false]
def Mth.v (m : Mth) : V := .agg m.cells
def Cls.cells (c : Cls) : List V := [.str c.n, .str c.s, .bool c.i, .bool c.a, .list 1 (c.im.map V.str) false, .list 3 (c.fs.map Fld.v) false, .list 8 (c.ms.map Mth.v) false]
def Cls.v (c : Cls) : V := .agg c.cells

structure Ins.Wf (x : Ins) : Prop where
  (o : (Lit.int .i64 x.o).wf = true) (a : (Lit.int .i64 x.a).wf = true) (b : (Lit.int .i64 x.b).wf = true)
structure Hnd.Wf (x : Hnd) : Prop where
  (f : (Lit.int .i64 x.f).wf = true) (t : (Lit.int .i64 x.t).wf = true) (a : (Lit.int .i64 x.a).wf = true)
structure Mth.Wf (m : Mth) : Prop where
  (st : (Lit.int .i64 m.st).wf = true) (lo : (Lit.int .i64 m.lo).wf = true) (code : m.code.length ≤ maxLen) (hs : m.hs.length ≤ maxLen)
  (codes : ∀ x ∈ m.code, x.Wf) (hss : ∀ x ∈ m.hs, x.Wf)
  (ln : m.n.length ≤ maxLen) (ld : m.d.length ≤ maxLen) (lx : ∀ x ∈ m.code, x.c.length ≤ maxLen ∧ x.n.length ≤ maxLen ∧ x.d.length ≤ maxLen) (lh : ∀ x ∈ m.hs, x.c.length ≤ maxLen)
structure Cls.Wf (c : Cls) : Prop where
  (im : c.im.length ≤ maxLen) (fs : c.fs.length ≤ maxLen) (ms : c.ms.length ≤ maxLen) (mss : ∀ m ∈ c.ms, m.Wf)
  (ln : c.n.length ≤ maxLen) (ls : c.s.length ≤ maxLen) (li : ∀ x ∈ c.im, x.length ≤ maxLen) (lf : ∀ x ∈ c.fs, x.n.length ≤ maxLen ∧ x.d.length ≤ maxLen)

theorem tyInt {n : Nat} {x : List V} (h : TyC Tryz.prog (n + 1) 3 x) : ∃ m, x = [.int .i64 m] ∧ (Lit.int .i64 m).wf = true := by
  simp only [TyC, Tryz.underlying3] at h; exact h
theorem tyBool {n : Nat} {x : List V} (h : TyC Tryz.prog (n + 1) 4 x) : ∃ m, x = [.bool m] := by
  simp only [TyC, Tryz.underlying4] at h; exact h
theorem tyStr {n : Nat} {x : List V} (h : TyC Tryz.prog (n + 1) 9 x) : ∃ m, x = [.str m] ∧ m.length ≤ maxLen := by
  simp only [TyC, Tryz.underlying9] at h; exact h

/-- A row whose elements are read each by itself. -/
theorem row_of {α : Type} (f : α → V) (p : α → Prop) : ∀ {ys : List V}, (∀ y ∈ ys, ∃ a, y = f a ∧ p a) → ∃ l : List α, ys = l.map f ∧ l.length = ys.length ∧ ∀ a ∈ l, p a
  | [], _ => ⟨[], rfl, rfl, by simp⟩
  | y :: ys, h => by
    obtain ⟨a, rfl, ha⟩ := h y (by simp)
    obtain ⟨l, rfl, hl, hp⟩ := row_of f p (ys := ys) fun z hz => h z (by simp [hz])
    exact ⟨a :: l, rfl, by simp, by simpa using ⟨ha, hp⟩⟩

theorem tyStrs {n : Nat} {xs : List V} (h : TyC Tryz.prog (n + 2) 41 xs) : ∃ l : List (List UInt8), xs = [.list 1 (l.map V.str) false] ∧ l.length ≤ maxLen ∧ ∀ x ∈ l, x.length ≤ maxLen := by
  rw [TyC] at h; simp only [Tryz.underlying41] at h
  obtain ⟨ys, rfl, hl, hy⟩ := h
  obtain ⟨l, rfl, hn, hp⟩ := row_of V.str (fun x => x.length ≤ maxLen) (ys := ys) fun y hm => by
    obtain ⟨cs, h1, h2⟩ := hy y hm
    simp only [Tryz.underlying9] at h2
    obtain ⟨s, rfl, w⟩ := tyStr h1
    injection h2 with h2 _
    exact ⟨s, h2.symm, w⟩
  exact ⟨l, by rw [show Tryz.prog.cellsOf 9 = _ from by kernel_rfl], by omega, hp⟩

/-- A loop that goes from 0 to n, or leaves at the first i that is not p. -/
theorem loop_find {b : ACode} (st : Nat → St) (n : Nat) (p : Nat → Bool) (out bad : AExit × St)
    (h1 : ∀ i, i < n → p i = true → cv tab prim b (st i) = some (.normal, st (i + 1)))
    (h2 : ∀ i, i < n → p i = false → cv tab prim b (st i) = some bad)
    (h3 : cv tab prim b (st n) = some out) (ho : out.1 ≠ .normal) (hb : bad.1 ≠ .normal) :
    cv tab prim (.loop b) (st 0) = some (if ∀ i, i < n → p i = true then out else bad) := by
  obtain ⟨oe, os⟩ := out
  obtain ⟨be, bs⟩ := bad
  have go : ∀ k i, i + k = n → (∀ j, j < i → p j = true) → cv tab prim (.loop b) (st i) = some (if ∀ i, i < n → p i = true then (oe, os) else (be, bs)) := by
    intro k
    induction k with
    | zero =>
      intro i hi hp
      obtain rfl : i = n := by omega
      rw [cv_loop', h3, if_pos hp]
      cases oe <;> first | rfl | exact absurd rfl ho
    | succ k ih =>
      intro i hi hp
      rw [cv_loop']
      cases hq : p i with
      | true =>
        rw [h1 i (by omega) hq, roundK_n]
        refine ih (i + 1) (by omega) fun j hj => ?_
        rcases Nat.lt_succ_iff_lt_or_eq.1 hj with h | rfl
        · exact hp j h
        · exact hq
      | false =>
        rw [h2 i (by omega) hq, if_neg (fun h => by have := h i (by omega); rw [hq] at this; cases this)]
        cases be <;> first | rfl | exact absurd rfl hb
  exact go n 0 (by omega) (by intro j hj; omega)

/-- A loop that goes from 0 to n. -/
theorem loop_all {b : ACode} (st : Nat → St) (n : Nat) (out : AExit × St)
    (h1 : ∀ i, i < n → cv tab prim b (st i) = some (.normal, st (i + 1)))
    (h3 : cv tab prim b (st n) = some out) (ho : out.1 ≠ .normal) :
    cv tab prim (.loop b) (st 0) = some out := by
  rw [loop_find st n (fun _ => true) out out (fun i hi _ => h1 i hi) (fun i _ h => by cases h) h3 ho ho, if_pos (fun _ _ => rfl)]

end Go.Proofs.YtpmpofcokkgfdaaGreatDoor.Ev
