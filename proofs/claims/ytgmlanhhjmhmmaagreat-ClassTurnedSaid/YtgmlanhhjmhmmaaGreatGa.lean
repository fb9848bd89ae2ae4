/- Classes in plain Lean; what an argument of the type api.Class comes to. -/
import Derived.Test.YtgmlanhhjmhmmaaGreatFe
namespace Go.Proofs.YtgmlanhhjmhmmaaGreat.Ev
open Go
attribute [local irreducible] TyC
set_option linter.constructorNameAsVariable false

structure Ins where (o a b : Int) (c n d : List UInt8)
structure Hnd where (f t a : Int) (c : List UInt8)
structure Fld where (n d : List UInt8) (s : Bool)
structure Mth where (n d : List UInt8) (s a : Bool) (st lo : Int) (code : List Ins) (hs : List Hnd)
structure Cls where (n s : List UInt8) (i a : Bool) (im : List (List UInt8)) (fs : List Fld) (ms : List Mth)

def Ins.v (x : Ins) : V := .agg [.int .i64 x.o, .int .i64 x.a, .int .i64 x.b, .str x.c, .str x.n, .str x.d]
def Hnd.v (x : Hnd) : V := .agg [.int .i64 x.f, .int .i64 x.t, .int .i64 x.a, .str x.c]
def Fld.v (x : Fld) : V := .agg [.str x.n, .str x.d, .bool x.s]
def Mth.cells (m : Mth) : List V := [.str m.n, .str m.d, .bool m.s, .bool m.a, .int .i64 m.st, .int .i64 m.lo, .list 6 (m.code.map Ins.v) false, .list 4 (m.hs.map Hnd.v) false]
def Mth.v (m : Mth) : V := .agg m.cells
def Cls.cells (c : Cls) : List V := [.str c.n, .str c.s, .bool c.i, .bool c.a, .list 1 (c.im.map V.str) false, .list 3 (c.fs.map Fld.v) false, .list 8 (c.ms.map Mth.v) false]
def Cls.v (c : Cls) : V := .agg c.cells

structure Ins.Wf (x : Ins) : Prop where
  (o : (Lit.int .i64 x.o).wf = true) (a : (Lit.int .i64 x.a).wf = true) (b : (Lit.int .i64 x.b).wf = true)
structure Hnd.Wf (x : Hnd) : Prop where
  (f : (Lit.int .i64 x.f).wf = true) (t : (Lit.int .i64 x.t).wf = true) (a : (Lit.int .i64 x.a).wf = true)
structure Mth.Wf (m : Mth) : Prop where
  (st : (Lit.int .i64 m.st).wf = true) (lo : (Lit.int .i64 m.lo).wf = true) (code : m.code.length ≤ maxLen) (hs : m.hs.length ≤ maxLen)
  (codes : ∀ x ∈ m.code, x.Wf) (hss : ∀ x ∈ m.hs, x.Wf)
  (ln : m.n.length ≤ maxLen) (ld : m.d.length ≤ maxLen) (lx : ∀ x ∈ m.code, x.c.length ≤ maxLen ∧ x.n.length ≤ maxLen ∧ x.d.length ≤ maxLen) (lh : ∀ x ∈ m.hs, x.c.length ≤ maxLen)
structure Cls.Wf (c : Cls) : Prop where
  (im : c.im.length ≤ maxLen) (fs : c.fs.length ≤ maxLen) (ms : c.ms.length ≤ maxLen) (mss : ∀ m ∈ c.ms, m.Wf)
  (ln : c.n.length ≤ maxLen) (ls : c.s.length ≤ maxLen) (li : ∀ x ∈ c.im, x.length ≤ maxLen) (lf : ∀ x ∈ c.fs, x.n.length ≤ maxLen ∧ x.d.length ≤ maxLen)

theorem tyInt {n : Nat} {x : List V} (h : TyC Tryz.prog (n + 1) 3 x) : ∃ m, x = [.int .i64 m] ∧ (Lit.int .i64 m).wf = true := by
  simp only [TyC, Tryz.underlying3] at h; exact h
theorem tyBool {n : Nat} {x : List V} (h : TyC Tryz.prog (n + 1) 4 x) : ∃ m, x = [.bool m] := by
  simp only [TyC, Tryz.underlying4] at h; exact h
theorem tyStr {n : Nat} {x : List V} (h : TyC Tryz.prog (n + 1) 9 x) : ∃ m, x = [.str m] ∧ m.length ≤ maxLen := by
  simp only [TyC, Tryz.underlying9] at h; exact h

/-- A row whose elements are read each by itself. -/
theorem row_of {α : Type} (f : α → V) (p : α → Prop) : ∀ {ys : List V}, (∀ y ∈ ys, ∃ a, y = f a ∧ p a) → ∃ l : List α, ys = l.map f ∧ l.length = ys.length ∧ ∀ a ∈ l, p a
  | [], _ => ⟨[], rfl, rfl, by simp⟩
  | y :: ys, h => by
    obtain ⟨a, rfl, ha⟩ := h y (by simp)
    obtain ⟨l, rfl, hl, hp⟩ := row_of f p (ys := ys) fun z hz => h z (by simp [hz])
    exact ⟨a :: l, rfl, by simp, by simpa using ⟨ha, hp⟩⟩

theorem tyIns {n : Nat} {xs : List V} (h : TyC Tryz.prog (n + 2) 41 xs) : ∃ x : Ins, V.agg xs = x.v ∧ x.Wf ∧ x.c.length ≤ maxLen ∧ x.n.length ≤ maxLen ∧ x.d.length ≤ maxLen := by
  rw [TyC] at h; simp only [Tryz.underlying41] at h
  change TyFs (TyC Tryz.prog (n + 1)) [3, 3, 3, 9, 9, 9] _ at h
  obtain ⟨x1, r1, rfl, h1, y1, r2, rfl, h2, y2, r3, rfl, h3, y3, r4, rfl, h4, y4, r5, rfl, h5, y5, r6, rfl, h6, rfl⟩ := h
  obtain ⟨o, rfl, w1⟩ := tyInt h1
  obtain ⟨a, rfl, w2⟩ := tyInt h2
  obtain ⟨b, rfl, w3⟩ := tyInt h3
  obtain ⟨c, rfl, w4⟩ := tyStr h4
  obtain ⟨n, rfl, w5⟩ := tyStr h5
  obtain ⟨d, rfl, w6⟩ := tyStr h6
  exact ⟨⟨o, a, b, c, n, d⟩, rfl, ⟨w1, w2, w3⟩, w4, w5, w6⟩

theorem tyHnd {n : Nat} {xs : List V} (h : TyC Tryz.prog (n + 2) 83 xs) : ∃ x : Hnd, V.agg xs = x.v ∧ x.Wf ∧ x.c.length ≤ maxLen := by
  rw [TyC] at h; simp only [Tryz.underlying83] at h
  change TyFs (TyC Tryz.prog (n + 1)) [3, 3, 3, 9] _ at h
  obtain ⟨x1, r1, rfl, h1, y1, r2, rfl, h2, y2, r3, rfl, h3, y3, r4, rfl, h4, rfl⟩ := h
  obtain ⟨o, rfl, w1⟩ := tyInt h1
  obtain ⟨a, rfl, w2⟩ := tyInt h2
  obtain ⟨b, rfl, w3⟩ := tyInt h3
  obtain ⟨c, rfl, w4⟩ := tyStr h4
  exact ⟨⟨o, a, b, c⟩, rfl, ⟨w1, w2, w3⟩, w4⟩

theorem tyFld {n : Nat} {xs : List V} (h : TyC Tryz.prog (n + 2) 51 xs) : ∃ x : Fld, V.agg xs = x.v ∧ x.n.length ≤ maxLen ∧ x.d.length ≤ maxLen := by
  rw [TyC] at h; simp only [Tryz.underlying51] at h
  change TyFs (TyC Tryz.prog (n + 1)) [9, 9, 4] _ at h
  obtain ⟨x1, r1, rfl, h1, y1, r2, rfl, h2, y2, r3, rfl, h3, rfl⟩ := h
  obtain ⟨o, rfl, w1⟩ := tyStr h1
  obtain ⟨a, rfl, w2⟩ := tyStr h2
  obtain ⟨b, rfl⟩ := tyBool h3
  exact ⟨⟨o, a, b⟩, rfl, w1, w2⟩

theorem tyStrs {n : Nat} {xs : List V} (h : TyC Tryz.prog (n + 2) 22 xs) : ∃ l : List (List UInt8), xs = [.list 1 (l.map V.str) false] ∧ l.length ≤ maxLen ∧ ∀ x ∈ l, x.length ≤ maxLen := by
  rw [TyC] at h; simp only [Tryz.underlying22] at h
  obtain ⟨ys, rfl, hl, hy⟩ := h
  obtain ⟨l, rfl, hn, hp⟩ := row_of V.str (fun x => x.length ≤ maxLen) (ys := ys) fun y hm => by
    obtain ⟨cs, h1, h2⟩ := hy y hm
    simp only [Tryz.underlying9] at h2
    obtain ⟨s, rfl, w⟩ := tyStr h1
    injection h2 with h2 _
    exact ⟨s, h2.symm, w⟩
  exact ⟨l, by rw [show Tryz.prog.cellsOf 9 = _ from by kernel_rfl], by omega, hp⟩

theorem tyInss {n : Nat} {xs : List V} (h : TyC Tryz.prog (n + 3) 36 xs) : ∃ l : List Ins, xs = [.list 6 (l.map Ins.v) false] ∧ l.length ≤ maxLen ∧ ∀ x ∈ l, x.Wf ∧ x.c.length ≤ maxLen ∧ x.n.length ≤ maxLen ∧ x.d.length ≤ maxLen := by
  rw [TyC] at h; simp only [Tryz.underlying36] at h
  obtain ⟨ys, rfl, hl, hy⟩ := h
  obtain ⟨l, rfl, hn, hp⟩ := row_of Ins.v _ (ys := ys) fun y hm => by
    obtain ⟨cs, h1, h2⟩ := hy y hm
    simp only [Tryz.underlying41] at h2
    obtain ⟨x, e, w⟩ := tyIns h1
    exact ⟨x, h2.trans e, w⟩
  exact ⟨l, by rw [show Tryz.prog.cellsOf 41 = _ from by kernel_rfl], by omega, hp⟩

theorem tyHnds {n : Nat} {xs : List V} (h : TyC Tryz.prog (n + 3) 37 xs) : ∃ l : List Hnd, xs = [.list 4 (l.map Hnd.v) false] ∧ l.length ≤ maxLen ∧ ∀ x ∈ l, x.Wf ∧ x.c.length ≤ maxLen := by
  rw [TyC] at h; simp only [Tryz.underlying37] at h
  obtain ⟨ys, rfl, hl, hy⟩ := h
  obtain ⟨l, rfl, hn, hp⟩ := row_of Hnd.v _ (ys := ys) fun y hm => by
    obtain ⟨cs, h1, h2⟩ := hy y hm
    simp only [Tryz.underlying83] at h2
    obtain ⟨x, e, w⟩ := tyHnd h1
    exact ⟨x, h2.trans e, w⟩
  exact ⟨l, by rw [show Tryz.prog.cellsOf 83 = _ from by kernel_rfl], by omega, hp⟩

theorem tyFlds {n : Nat} {xs : List V} (h : TyC Tryz.prog (n + 3) 23 xs) : ∃ l : List Fld, xs = [.list 3 (l.map Fld.v) false] ∧ l.length ≤ maxLen ∧ ∀ x ∈ l, x.n.length ≤ maxLen ∧ x.d.length ≤ maxLen := by
  rw [TyC] at h; simp only [Tryz.underlying23] at h
  obtain ⟨ys, rfl, hl, hy⟩ := h
  obtain ⟨l, rfl, hn, hp⟩ := row_of Fld.v _ (ys := ys) fun y hm => by
    obtain ⟨cs, h1, h2⟩ := hy y hm
    simp only [Tryz.underlying51] at h2
    obtain ⟨x, e, w⟩ := tyFld h1
    exact ⟨x, h2.trans e, w⟩
  exact ⟨l, by rw [show Tryz.prog.cellsOf 51 = _ from by kernel_rfl], by omega, hp⟩

theorem tyMth {n : Nat} {xs : List V} (h : TyC Tryz.prog (n + 4) 39 xs) : ∃ x : Mth, V.agg xs = x.v ∧ x.Wf := by
  rw [TyC] at h; simp only [Tryz.underlying39] at h
  change TyFs (TyC Tryz.prog (n + 3)) [9, 9, 4, 4, 3, 3, 36, 37] _ at h
  obtain ⟨x1, r1, rfl, h1, y1, r2, rfl, h2, y2, r3, rfl, h3, y3, r4, rfl, h4, y4, r5, rfl, h5, y5, r6, rfl, h6, y6, r7, rfl, h7, y7, r8, rfl, h8, rfl⟩ := h
  obtain ⟨n, rfl, w1⟩ := tyStr h1
  obtain ⟨d, rfl, w2⟩ := tyStr h2
  obtain ⟨s, rfl⟩ := tyBool h3
  obtain ⟨a, rfl⟩ := tyBool h4
  obtain ⟨st, rfl, w5⟩ := tyInt h5
  obtain ⟨lo, rfl, w6⟩ := tyInt h6
  obtain ⟨code, rfl, w7, w8⟩ := tyInss h7
  obtain ⟨hs, rfl, w9, w10⟩ := tyHnds h8
  exact ⟨⟨n, d, s, a, st, lo, code, hs⟩, rfl, w5, w6, w7, w9, fun x hx => (w8 x hx).1, fun x hx => (w10 x hx).1, w1, w2, fun x hx => (w8 x hx).2, fun x hx => (w10 x hx).2⟩

theorem tyMths {n : Nat} {xs : List V} (h : TyC Tryz.prog (n + 5) 24 xs) : ∃ l : List Mth, xs = [.list 8 (l.map Mth.v) false] ∧ l.length ≤ maxLen ∧ ∀ x ∈ l, x.Wf := by
  rw [TyC] at h; simp only [Tryz.underlying24] at h
  obtain ⟨ys, rfl, hl, hy⟩ := h
  obtain ⟨l, rfl, hn, hp⟩ := row_of Mth.v _ (ys := ys) fun y hm => by
    obtain ⟨cs, h1, h2⟩ := hy y hm
    simp only [Tryz.underlying39] at h2
    obtain ⟨x, e, w⟩ := tyMth h1
    exact ⟨x, h2.trans e, w⟩
  exact ⟨l, by rw [show Tryz.prog.cellsOf 39 = _ from by kernel_rfl], by omega, hp⟩

/-- An argument of the type api.Class. -/
theorem tyCls {xs : List V} (h : TyC Tryz.prog 6 26 xs) : ∃ c : Cls, V.agg xs = c.v ∧ c.Wf := by
  rw [TyC] at h; simp only [Tryz.underlying26] at h
  change TyFs (TyC Tryz.prog (5)) [9, 9, 4, 4, 22, 23, 24] _ at h
  obtain ⟨x1, r1, rfl, h1, y1, r2, rfl, h2, y2, r3, rfl, h3, y3, r4, rfl, h4, y4, r5, rfl, h5, y5, r6, rfl, h6, y6, r7, rfl, h7, rfl⟩ := h
  obtain ⟨n, rfl, w1⟩ := tyStr h1
  obtain ⟨s, rfl, w2⟩ := tyStr h2
  obtain ⟨i, rfl⟩ := tyBool h3
  obtain ⟨a, rfl⟩ := tyBool h4
  obtain ⟨im, rfl, w5, w5'⟩ := tyStrs h5
  obtain ⟨fs, rfl, w6, w6'⟩ := tyFlds h6
  obtain ⟨ms, rfl, w7, w7'⟩ := tyMths h7
  exact ⟨⟨n, s, i, a, im, fs, ms⟩, rfl, w5, w6, w7, w7', w1, w2, w5', w6'⟩

/-- A loop that goes from 0 to n, or leaves at the first i that is not p. -/
theorem loop_find {b : ACode} (st : Nat → St) (n : Nat) (p : Nat → Bool) (out bad : AExit × St)
    (h1 : ∀ i, i < n → p i = true → cv tab prim b (st i) = some (.normal, st (i + 1)))
    (h2 : ∀ i, i < n → p i = false → cv tab prim b (st i) = some bad)
    (h3 : cv tab prim b (st n) = some out) (ho : out.1 ≠ .normal) (hb : bad.1 ≠ .normal) :
    cv tab prim (.loop b) (st 0) = some (if ∀ i, i < n → p i = true then out else bad) := by
  obtain ⟨oe, os⟩ := out
  obtain ⟨be, bs⟩ := bad
  have go : ∀ k i, i + k = n → (∀ j, j < i → p j = true) → cv tab prim (.loop b) (st i) = some (if ∀ i, i < n → p i = true then (oe, os) else (be, bs)) := by
    intro k
    induction k with
    | zero =>
      intro i hi hp
      obtain rfl : i = n := by omega
      rw [cv_loop', h3, if_pos hp]
      cases oe <;> first | rfl | exact absurd rfl ho
    | succ k ih =>
      intro i hi hp
      rw [cv_loop']
      cases hq : p i with
      | true =>
        rw [h1 i (by omega) hq, roundK_n]
        refine ih (i + 1) (by omega) fun j hj => ?_
        rcases Nat.lt_succ_iff_lt_or_eq.1 hj with h | rfl
        · exact hp j h
        · exact hq
      | false =>
        rw [h2 i (by omega) hq, if_neg (fun h => by have := h i (by omega); rw [hq] at this; cases this)]
        cases be <;> first | rfl | exact absurd rfl hb
  exact go n 0 (by omega) (by intro j hj; omega)

/-- A loop that goes from 0 to n. -/
theorem loop_all {b : ACode} (st : Nat → St) (n : Nat) (out : AExit × St)
    (h1 : ∀ i, i < n → cv tab prim b (st i) = some (.normal, st (i + 1)))
    (h3 : cv tab prim b (st n) = some out) (ho : out.1 ≠ .normal) :
    cv tab prim (.loop b) (st 0) = some out := by
  rw [loop_find st n (fun _ => true) out out (fun i hi _ => h1 i hi) (fun i _ h => by cases h) h3 ho ho, if_pos (fun _ _ => rfl)]

end Go.Proofs.YtgmlanhhjmhmmaaGreat.Ev
