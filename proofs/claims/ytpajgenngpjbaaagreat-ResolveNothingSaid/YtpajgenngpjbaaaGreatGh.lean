import Derived.Test.YtpajgenngpjbaaaGreatFx
/- Classes in plain Lean; what an argument of the type api.Class comes to. -/
namespace Go.Proofs.YtpajgenngpjbaaaGreat.Ev
open Go
attribute [local irreducible] TyC
set_option linter.constructorNameAsVariable false

structure Ins where (o a b : Int) (c n d : List UInt8)
structure Hnd where (f t a : Int) (c : List UInt8)
structure Fld where (n d : List UInt8) (s : Bool)
structure Mth where (n d : List UInt8) (s a : Bool) (st lo : Int) (code : List Ins) (hs : List Hnd)
structure Cls where (n s : List UInt8) (i a : Bool) (im : List (List UInt8)) (fs : List Fld) (ms : List Mth)

def Ins.v (x : Ins) : V := .agg [.int .i64 x.o, .int .i64 x.a, .int .i64 x.b, .str x.c, .str x.n, .str x.d]
def Hnd.v (x : Hnd) : V := .agg [.int .i64 x.f, .int .i64 x.t, .int .i64 x.a, .str x.c]
def Fld.v (x : Fld) : V := .agg [.str x.n, .str x.d, .bool x.s]
def Mth.cells (m : Mth) : List V := [.str m.n, .str m.d, .bool m.s, .bool m.a, .int .i64 m.st, .int .i64 m.lo, .list 6 (m.code.map Ins.v) false, .list 4 (m.hs.map Hnd.v) false]
def Mth.v (m : Mth) : V := .agg m.cells
def Cls.cells (c : Cls) : List V := [.str c.n, .str c.s, .bool c.i, .bool c.a, .list 1 (c.im.map V.str) false, .list 3 (c.fs.map Fld.v) false, .list 8 (c.ms.map Mth.v) false]
def Cls.v (c : Cls) : V := .agg c.cells

structure Ins.Wf (x : Ins) : Prop where
  (o : (Lit.int .i64 x.o).wf = true) (a : (Lit.int .i64 x.a).wf = true) (b : (Lit.int .i64 x.b).wf = true)
structure Hnd.Wf (x : Hnd) : Prop where
  (f : (Lit.int .i64 x.f).wf = true) (t : (Lit.int .i64 x.t).wf = true) (a : (Lit.int .i64 x.a).wf = true)
structure Mth.Wf (m : Mth) : Prop where
  (st : (Lit.int .i64 m.st).wf = true) (lo : (Lit.int .i64 m.lo).wf = true) (code : m.code.length ≤ maxLen) (hs : m.hs.length ≤ maxLen)
  (codes : ∀ x ∈ m.code, x.Wf) (hss : ∀ x ∈ m.hs, x.Wf)
  (ln : m.n.length ≤ maxLen) (ld : m.d.length ≤ maxLen) (lx : ∀ x ∈ m.code, x.c.length ≤ maxLen ∧ x.n.length ≤ maxLen ∧ x.d.length ≤ maxLen) (lh : ∀ x ∈ m.hs, x.c.length ≤ maxLen)
structure Cls.Wf (c : Cls) : Prop where
  (im : c.im.length ≤ maxLen) (fs : c.fs.length ≤ maxLen) (ms : c.ms.length ≤ maxLen) (mss : ∀ m ∈ c.ms, m.Wf)
  (ln : c.n.length ≤ maxLen) (ls : c.s.length ≤ maxLen) (li : ∀ x ∈ c.im, x.length ≤ maxLen) (lf : ∀ x ∈ c.fs, x.n.length ≤ maxLen ∧ x.d.length ≤ maxLen)

theorem tyInt {n : Nat} {x : List V} (h : TyC Tryz.prog (n + 1) 3 x) : ∃ m, x = [.int .i64 m] ∧ (Lit.int .i64 m).wf = true := by
  simp only [TyC, Tryz.underlying3] at h; exact h
theorem tyBool {n : Nat} {x : List V} (h : TyC Tryz.prog (n + 1) 4 x) : ∃ m, x = [.bool m] := by
  simp only [TyC, Tryz.underlying4] at h; exact h
theorem tyStr {n : Nat} {x : List V} (h : TyC Tryz.prog (n + 1) 9 x) : ∃ m, x = [.str m] ∧ m.length ≤ maxLen := by
  simp only [TyC, Tryz.underlying9] at h; exact h

/-- A row whose elements are read each by itself. -/
theorem row_of {α : Type} (f : α → V) (p : α → Prop) : ∀ {ys : List V}, (∀ y ∈ ys, ∃ a, y = f a ∧ p a) → ∃ l : List α, ys = l.map f ∧ l.length = ys.length ∧ ∀ a ∈ l, p a
  | [], _ => ⟨[], rfl, rfl, by simp⟩
  | y :: ys, h => by
    obtain ⟨a, rfl, ha⟩ := h y (by simp)
    obtain ⟨l, rfl, hl, hp⟩ := row_of f p (ys := ys) fun z hz => h z (by simp [hz])
    exact ⟨a :: l, rfl, by simp, by simpa using ⟨ha, hp⟩⟩

theorem tyIns {n : Nat} {xs : List V} (h : TyC Tryz.prog (n + 2) 52 xs) : ∃ x : Ins, V.agg xs = x.v ∧ x.Wf ∧ x.c.length ≤ maxLen ∧ x.n.length ≤ maxLen ∧ x.d.length ≤ maxLen := by
  rw [TyC] at h; simp only [Tryz.underlying52] at h
  change TyFs (TyC Tryz.prog (n + 1)) [3, 3, 3, 9, 9, 9] _ at h
  obtain ⟨x1, r1, rfl, h1, y1, r2, rfl, h2, y2, r3, rfl, h3, y3, r4, rfl, h4, y4, r5, rfl, h5, y5, r6, rfl, h6, rfl⟩ := h
  obtain ⟨o, rfl, w1⟩ := tyInt h1
  obtain ⟨a, rfl, w2⟩ := tyInt h2
  obtain ⟨b, rfl, w3⟩ := tyInt h3
  obtain ⟨c, rfl, w4⟩ := tyStr h4
  obtain ⟨n, rfl, w5⟩ := tyStr h5
  obtain ⟨d, rfl, w6⟩ := tyStr h6
  exact ⟨⟨o, a, b, c, n, d⟩, rfl, ⟨w1, w2, w3⟩, w4, w5, w6⟩

theorem tyHnd {n : Nat} {xs : List V} (h : TyC Tryz.prog (n + 2) 138 xs) : ∃ x : Hnd, V.agg xs = x.v ∧ x.Wf ∧ x.c.length ≤ maxLen := by
  rw [TyC] at h; simp only [Tryz.underlying138] at h
  change TyFs (TyC Tryz.prog (n + 1)) [3, 3, 3, 9] _ at h
  obtain ⟨x1, r1, rfl, h1, y1, r2, rfl, h2, y2, r3, rfl, h3, y3, r4, rfl, h4, rfl⟩ := h
  obtain ⟨o, rfl, w1⟩ := tyInt h1
  obtain ⟨a, rfl, w2⟩ := tyInt h2
  obtain ⟨b, rfl, w3⟩ := tyInt h3
  obtain ⟨c, rfl, w4⟩ := tyStr h4
  exact ⟨⟨o, a, b, c⟩, rfl, ⟨w1, w2, w3⟩, w4⟩

theorem tyFld {n : Nat} {xs : List V} (h : TyC Tryz.prog (n + 2) 50 xs) : ∃ x : Fld, V.agg xs = x.v ∧ x.n.length ≤ maxLen ∧ x.d.length ≤ maxLen := by
  rw [TyC] at h; simp only [Tryz.underlying50] at h
  change TyFs (TyC Tryz.prog (n + 1)) [9, 9, 4] _ at h
  obtain ⟨x1, r1, rfl, h1, y1, r2, rfl, h2, y2, r3, rfl, h3, rfl⟩ := h
  obtain ⟨o, rfl, w1⟩ := tyStr h1
  obtain ⟨a, rfl, w2⟩ := tyStr h2
  obtain ⟨b, rfl⟩ := tyBool h3
  exact ⟨⟨o, a, b⟩, rfl, w1, w2⟩

theorem tyStrs {n : Nat} {xs : List V} (h : TyC Tryz.prog (n + 2) 29 xs) : ∃ l : List (List UInt8), xs = [.list 1 (l.map V.str) false] ∧ l.length ≤ maxLen ∧ ∀ x ∈ l, x.length ≤ maxLen := by
  rw [TyC] at h; simp only [Tryz.underlying29] at h
  obtain ⟨ys, rfl, hl, hy⟩ := h
  obtain ⟨l, rfl, hn, hp⟩ := row_of V.str (fun x => x.length ≤ maxLen) (ys := ys) fun y hm => by
    obtain ⟨cs, h1, h2⟩ := hy y hm
    simp only [Tryz.underlying9] at h2
    obtain ⟨s, rfl, w⟩ := tyStr h1
    injection h2 with h2 _
    exact ⟨s, h2.symm, w⟩
  exact ⟨l, by rw [show Tryz.prog.cellsOf 9 = _ from by kernel_rfl], by omega, hp⟩

theorem tyInss {n : Nat} {xs : List V} (h : TyC Tryz.prog (n + 3) 38 xs) : ∃ l : List Ins, xs = [.list 6 (l.map Ins.v) false] ∧ l.length ≤ maxLen ∧ ∀ x ∈ l, x.Wf ∧ x.c.length ≤ maxLen ∧ x.n.length ≤ maxLen ∧ x.d.length ≤ maxLen := by
  rw [TyC] at h; simp only [Tryz.underlying38] at h
  obtain ⟨ys, rfl, hl, hy⟩ := h
  obtain ⟨l, rfl, hn, hp⟩ := row_of Ins.v _ (ys := ys) fun y hm => by
    obtain ⟨cs, h1, h2⟩ := hy y hm
    simp only [Tryz.underlying52] at h2
    obtain ⟨x, e, w⟩ := tyIns h1
    exact ⟨x, h2.trans e, w⟩
  exact ⟨l, by rw [show Tryz.prog.cellsOf 52 = _ from by kernel_rfl], by omega, hp⟩

theorem tyHnds {n : Nat} {xs : List V} (h : TyC Tryz.prog (n + 3) 39 xs) : ∃ l : List Hnd, xs = [.list 4 (l.map Hnd.v) false] ∧ l.length ≤ maxLen ∧ ∀ x ∈ l, x.Wf ∧ x.c.length ≤ maxLen := by
  rw [TyC] at h; simp only [Tryz.underlying39] at h
  obtain ⟨ys, rfl, hl, hy⟩ := h
  obtain ⟨l, rfl, hn, hp⟩ := row_of Hnd.v _ (ys := ys) fun y hm => by
    obtain ⟨cs, h1, h2⟩ := hy y hm
    simp only [Tryz.underlying138] at h2
    obtain ⟨x, e, w⟩ := tyHnd h1
    exact ⟨x, h2.trans e, w⟩
  exact ⟨l, by rw [show Tryz.prog.cellsOf 138 = _ from by kernel_rfl], by omega, hp⟩

theorem tyFlds {n : Nat} {xs : List V} (h : TyC Tryz.prog (n + 3) 32 xs) : ∃ l : List Fld, xs = [.list 3 (l.map Fld.v) false] ∧ l.length ≤ maxLen ∧ ∀ x ∈ l, x.n.length ≤ maxLen ∧ x.d.length ≤ maxLen := by
  rw [TyC] at h; simp only [Tryz.underlying32] at h
  obtain ⟨ys, rfl, hl, hy⟩ := h
  obtain ⟨l, rfl, hn, hp⟩ := row_of Fld.v _ (ys := ys) fun y hm => by
    obtain ⟨cs, h1, h2⟩ := hy y hm
    simp only [Tryz.underlying50] at h2
    obtain ⟨x, e, w⟩ := tyFld h1
    exact ⟨x, h2.trans e, w⟩
  exact ⟨l, by rw [show Tryz.prog.cellsOf 50 = _ from by kernel_rfl], by omega, hp⟩

theorem tyMth {n : Nat} {xs : List V} (h : TyC Tryz.prog (n + 4) 41 xs) : ∃ x : Mth, V.agg xs = x.v ∧ x.Wf := by
  rw [TyC] at h; simp only [Tryz.underlying41] at h
  change TyFs (TyC Tryz.prog (n + 3)) [9, 9, 4, 4, 3, 3, 38, 39] _ at h
  obtain ⟨x1, r1, rfl, h1, y1, r2, rfl, h2, y2, r3, rfl, h3, y3, r4, rfl, h4, y4, r5, rfl, h5, y5, r6, rfl, h6, y6, r7, rfl, h7, y7, r8, rfl, h8, rfl⟩ := h
  obtain ⟨n, rfl, w1⟩ := tyStr h1
  obtain ⟨d, rfl, w2⟩ := tyStr h2
  obtain ⟨s, rfl⟩ := tyBool h3
  obtain ⟨a, rfl⟩ := tyBool h4
  obtain ⟨st, rfl, w5⟩ := tyInt h5
  obtain ⟨lo, rfl, w6⟩ := tyInt h6
  obtain ⟨code, rfl, w7, w8⟩ := tyInss h7
  obtain ⟨hs, rfl, w9, w10⟩ := tyHnds h8
  exact ⟨⟨n, d, s, a, st, lo, code, hs⟩, rfl, w5, w6, w7, w9, fun x hx => (w8 x hx).1, fun x hx => (w10 x hx).1, w1, w2, fun x hx => (w8 x hx).2, fun x hx => (w10 x hx).2⟩

theorem tyMths {n : Nat} {xs : List V} (h : TyC Tryz.prog (n + 5) 33 xs) : ∃ l : List Mth, xs = [.list 8 (l.map Mth.v) false] ∧ l.length ≤ maxLen ∧ ∀ x ∈ l, x.Wf := by
  rw [TyC] at h; simp only [Tryz.underlying33] at h
  obtain ⟨ys, rfl, hl, hy⟩ := h
  obtain ⟨l, rfl, hn, hp⟩ := row_of Mth.v _ (ys := ys) fun y hm => by
    obtain ⟨cs, h1, h2⟩ := hy y hm
    simp only [Tryz.underlying41] at h2
    obtain ⟨x, e, w⟩ := tyMth h1
    exact ⟨x, h2.trans e, w⟩
  exact ⟨l, by rw [show Tryz.prog.cellsOf 41 = _ from by kernel_rfl], by omega, hp⟩

/-- An argument of the type api.Class. -/
theorem tyCls {xs : List V} (h : TyC Tryz.prog 6 35 xs) : ∃ c : Cls, V.agg xs = c.v ∧ c.Wf := by
  rw [TyC] at h; simp only [Tryz.underlying35] at h
  change TyFs (TyC Tryz.prog (5)) [9, 9, 4, 4, 29, 32, 33] _ at h
  obtain ⟨x1, r1, rfl, h1, y1, r2, rfl, h2, y2, r3, rfl, h3, y3, r4, rfl, h4, y4, r5, rfl, h5, y5, r6, rfl, h6, y6, r7, rfl, h7, rfl⟩ := h
  obtain ⟨n, rfl, w1⟩ := tyStr h1
  obtain ⟨s, rfl, w2⟩ := tyStr h2
  obtain ⟨i, rfl⟩ := tyBool h3
  obtain ⟨a, rfl⟩ := tyBool h4
  obtain ⟨im, rfl, w5, w5'⟩ := tyStrs h5
  obtain ⟨fs, rfl, w6, w6'⟩ := tyFlds h6
  obtain ⟨ms, rfl, w7, w7'⟩ := tyMths h7
  exact ⟨⟨n, s, i, a, im, fs, ms⟩, rfl, w5, w6, w7, w7', w1, w2, w5', w6'⟩

/-- A loop that goes from 0 to n, or leaves at the first i that is not p. -/
theorem loop_find {b : ACode} (st : Nat → St) (n : Nat) (p : Nat → Bool) (out bad : AExit × St)
    (h1 : ∀ i, i < n → p i = true → cv tab prim b (st i) = some (.normal, st (i + 1)))
    (h2 : ∀ i, i < n → p i = false → cv tab prim b (st i) = some bad)
    (h3 : cv tab prim b (st n) = some out) (ho : out.1 ≠ .normal) (hb : bad.1 ≠ .normal) :
    cv tab prim (.loop b) (st 0) = some (if ∀ i, i < n → p i = true then out else bad) := by
  obtain ⟨oe, os⟩ := out
  obtain ⟨be, bs⟩ := bad
  have go : ∀ k i, i + k = n → (∀ j, j < i → p j = true) → cv tab prim (.loop b) (st i) = some (if ∀ i, i < n → p i = true then (oe, os) else (be, bs)) := by
    intro k
    induction k with
    | zero =>
      intro i hi hp
      obtain rfl : i = n := by omega
      rw [cv_loop', h3, if_pos hp]
      cases oe <;> first | rfl | exact absurd rfl ho
    | succ k ih =>
      intro i hi hp
      rw [cv_loop']
      cases hq : p i with
      | true =>
        rw [h1 i (by omega) hq, roundK_n]
        refine ih (i + 1) (by omega) fun j hj => ?_
        rcases Nat.lt_succ_iff_lt_or_eq.1 hj with h | rfl
        · exact hp j h
        · exact hq
      | false =>
        rw [h2 i (by omega) hq, if_neg (fun h => by have := h i (by omega); rw [hq] at this; cases this)]
        cases be <;> first | rfl | exact absurd rfl hb
  exact go n 0 (by omega) (by intro j hj; omega)

/-- A loop that goes from 0 to n. -/
theorem loop_all {b : ACode} (st : Nat → St) (n : Nat) (out : AExit × St)
    (h1 : ∀ i, i < n → cv tab prim b (st i) = some (.normal, st (i + 1)))
    (h3 : cv tab prim b (st n) = some out) (ho : out.1 ≠ .normal) :
    cv tab prim (.loop b) (st 0) = some out := by
  rw [loop_find st n (fun _ => true) out out (fun i hi _ => h1 i hi) (fun i _ h => by cases h) h3 ho ho, if_pos (fun _ _ => rfl)]

end Go.Proofs.YtpajgenngpjbaaaGreat.Ev

/- How much there is of a class. -/
namespace Go.Proofs.YtpajgenngpjbaaaGreat.Ev
open Go

def most : Int := 1099511627776
/-- What Sum says. -/
def sumF : Int → List Int → Int
  | n, [] => n
  | n, x :: r => if 1099511627776 < n ∨ 1099511627776 - n < x then 1099511627776 else sumF (n + x) r

theorem sumF_held : ∀ (xs : List Int) (n : Int), 0 ≤ n → (∀ x ∈ xs, 0 ≤ x) → 0 ≤ sumF n xs ∧ (sumF n xs < 1099511627776 → sumF n xs = n + xs.sum)
  | [], n, hn, _ => by simp [sumF, hn]
  | x :: r, n, hn, hx => by
    have h1 := hx x (by simp)
    have := sumF_held r (n + x) (by omega) fun y hy => hx y (by simp [hy])
    rw [sumF, List.sum_cons]
    split
    · omega
    · refine ⟨this.1, fun h => by rw [this.2 h]; omega⟩

theorem sumLoop2 (xs : List Int) (hl : xs.length ≤ 1000) (hx : ∀ x ∈ xs, 0 ≤ x) : ∀ (k i : Nat) (n : Int), i + k = xs.length → 0 ≤ n →
    (cv tab prim (.loop L26_0) { env := [(0, .int .i64 n), (1, .list 1 (ints xs) false), (5, .int .i64 (i : Int))], mem := [[], [], []] } = some (.ret, { env := [(4, .int .i64 1099511627776)], mem := [[], [], []] }) ∧ sumF n (xs.drop i) = 1099511627776) ∨
    cv tab prim (.loop L26_0) { env := [(0, .int .i64 n), (1, .list 1 (ints xs) false), (5, .int .i64 (i : Int))], mem := [[], [], []] } = some (.exit 0, { env := [(0, .int .i64 (sumF n (xs.drop i)))], mem := [[], [], []] }) := by
  intro k
  induction k with
  | zero =>
    intro i n hi hn
    right
    have h1 : ¬ (i : Int) < ((ints xs).length : Int) := by simp [ints]; omega
    have hd : xs.drop i = [] := List.drop_eq_nil_of_le (by omega)
    rw [cv_loop', hd]
    simp [L26_0, h1, sumF]
  | succ k ih =>
    intro i n hi hn
    have h1 : (i : Int) < ((ints xs).length : Int) := by simp [ints]; omega
    have h1' : i < (ints xs).length := by simpa using h1
    have hlt : i < xs.length := by omega
    have hx1 : (ints xs)[i] = .int .i64 xs[i] := by simp [ints]
    have hp := hx xs[i] (List.getElem_mem hlt)
    have hw : IntKind.i64.wrap ((i : Int) + 1) = ((i + 1 : Nat) : Int) := by rw [wrap_small (by omega) (by omega)]; omega
    have hd : xs.drop i = xs[i] :: xs.drop (i + 1) := List.drop_eq_getElem_cons hlt
    rw [cv_loop', hd, sumF]
    by_cases h2 : 1099511627776 < n
    · left
      rw [if_pos (.inl h2)]
      refine ⟨?_, rfl⟩
      simp [L26_0, h1, h2]
    · have h4 : IntKind.i64.wrap (1099511627776 - n) = 1099511627776 - n := wrap_small (by omega) (by omega)
      by_cases h3 : 1099511627776 - n < xs[i]
      · left
        rw [if_pos (.inr h3)]
        refine ⟨?_, rfl⟩
        simp [L26_0, h1, h1', h2, h3, h4, idxOk, hx1]
      · have h5 : IntKind.i64.wrap (n + xs[i]) = n + xs[i] := wrap_small (by omega) (by omega)
        have := ih (i + 1) (n + xs[i]) (by omega) (by omega)
        rw [← hw] at this
        rw [if_neg (by omega)]
        simpa [L26_0, h1, h1', h2, h3, h4, h5, idxOk, hx1] using this

theorem ev_Sum (n : Int) (xs : List Int) (hl : xs.length ≤ 1000) (hn : 0 ≤ n) (hx : ∀ x ∈ xs, 0 ≤ x) (own : Bool) : ev tab prim 26 [.int .i64 n, .list 1 (xs.map (V.int .i64)) own] [[], []] = some (.int .i64 (sumF n xs), [[], []]) := by
  rw [ev_fn' tab prim (f := 26) rfl _ _ rfl]
  rcases sumLoop2 xs hl hx xs.length 0 n (by omega) hn with ⟨h, hs⟩ | h
  · simp only [Int.natCast_zero, ints] at h
    rw [List.drop_zero] at hs
    simp [h, hs]
  · simp only [Int.natCast_zero, ints, List.drop_zero] at h
    simp [h]

def Ins.size (x : Ins) : Int := sumF 1 [(x.c.length : Int), (x.n.length : Int), (x.d.length : Int)]
def Mth.size0 (m : Mth) : Int := sumF 1 [(m.n.length : Int), (m.d.length : Int), (m.code.length : Int), (m.hs.length : Int)]
def Mth.size1 (m : Mth) (i : Nat) : Int := (m.code.take i).foldl (fun n x => sumF n [x.size]) m.size0
def Mth.size2 (m : Mth) (i : Nat) : Int := (m.hs.take i).foldl (fun n x => sumF n [(x.c.length : Int)]) (m.size1 m.code.length)
def Mth.size (m : Mth) : Int := m.size2 m.hs.length
def Cls.size0 (c : Cls) : Int := sumF 1 [(c.n.length : Int), (c.s.length : Int)]
def Cls.size1 (c : Cls) (i : Nat) : Int := (c.im.take i).foldl (fun n x => sumF n [1, (x.length : Int)]) c.size0
def Cls.size2 (c : Cls) (i : Nat) : Int := (c.fs.take i).foldl (fun n x => sumF n [1, (x.n.length : Int), (x.d.length : Int)]) (c.size1 c.im.length)
def Cls.size3 (c : Cls) (i : Nat) : Int := (c.ms.take i).foldl (fun n x => sumF n [x.size]) (c.size2 c.fs.length)
def Cls.size (c : Cls) : Int := c.size3 c.ms.length

theorem sumF_pos {n : Int} {xs : List Int} (hn : 0 ≤ n) (hx : ∀ x ∈ xs, 0 ≤ x) : 0 ≤ sumF n xs := (sumF_held xs n hn hx).1
theorem foldl_pos {α : Type} (f : Int → α → Int) (hf : ∀ n a, 0 ≤ n → 0 ≤ f n a) : ∀ (l : List α) (n : Int), 0 ≤ n → 0 ≤ l.foldl f n
  | [], _, h => h
  | a :: l, n, h => foldl_pos f hf l _ (hf n a h)
theorem foldl_take {α β : Type} (f : β → α → β) (l : List α) (n : β) (i : Nat) (h : i < l.length) : (l.take (i + 1)).foldl f n = f ((l.take i).foldl f n) l[i] := by
  rw [List.take_succ_eq_append_getElem h, List.foldl_append]; rfl

theorem Ins.size_pos (x : Ins) : 0 ≤ x.size := sumF_pos (by omega) (by simp)
theorem Mth.size1_pos (m : Mth) (i : Nat) : 0 ≤ m.size1 i := foldl_pos _ (fun n a h => sumF_pos h (by simp [Ins.size_pos])) _ _ (sumF_pos (by omega) (by simp))
theorem Mth.size2_pos (m : Mth) (i : Nat) : 0 ≤ m.size2 i := foldl_pos _ (fun n a h => sumF_pos h (by simp)) _ _ (m.size1_pos _)
theorem Mth.size_pos (m : Mth) : 0 ≤ m.size := m.size2_pos _
theorem Cls.size1_pos (c : Cls) (i : Nat) : 0 ≤ c.size1 i := foldl_pos _ (fun n a h => sumF_pos h (by simp)) _ _ (sumF_pos (by omega) (by simp))
theorem Cls.size2_pos (c : Cls) (i : Nat) : 0 ≤ c.size2 i := foldl_pos _ (fun n a h => sumF_pos h (by simp)) _ _ (c.size1_pos _)
theorem Cls.size3_pos (c : Cls) (i : Nat) : 0 ≤ c.size3 i := foldl_pos _ (fun n a h => sumF_pos h (by simp [Mth.size_pos])) _ _ (c.size2_pos _)

theorem ev_InstrSize (x : Ins) : ev tab prim 23 [x.v] [[], []] = some (.int .i64 x.size, [[], []]) := by
  have hr := ev_Sum 1 [(x.c.length : Int), (x.n.length : Int), (x.d.length : Int)] (by simp) (by omega) (by simp) false
  unfold Ins.v
  rw [ev_fn' tab prim (f := 23) rfl _ _ rfl]
  simp only [List.map_cons, List.map_nil] at hr
  simp [hr, Ins.size]

theorem wrap_succ {i n : Nat} (h : i < n) (hn : n ≤ maxLen) : IntKind.i64.wrap ((i : Int) + 1) = ((i + 1 : Nat) : Int) := by
  unfold maxLen at hn; rw [wrap_small (by omega) (by omega)]; omega

theorem mLoop0 (m : Mth) (hm : m.Wf) : cv tab prim (.loop L73_0) { env := [(1, .cptr m.cells), (3, .int .i64 m.size0), (4, .int .i64 0)], mem := [[], [], []] } = some (.exit 0, { env := [(1, .cptr m.cells), (3, .int .i64 (m.size1 m.code.length))], mem := [[], [], []] }) := by
  refine loop_all (fun i => { env := [(1, .cptr m.cells), (3, .int .i64 (m.size1 i)), (4, .int .i64 (i : Int))], mem := [[], [], []] }) m.code.length _ (fun i hi => ?_) ?_ (by simp)
  · have h1 : (i : Int) < (m.code.length : Int) := by omega
    have hw := wrap_succ hi hm.code
    have hI := ev_InstrSize m.code[i]
    have hS := ev_Sum (m.size1 i) [m.code[i].size] (by simp) (m.size1_pos i) (by simp [Ins.size_pos]) false
    have he : m.size1 (i + 1) = sumF (m.size1 i) [m.code[i].size] := foldl_take _ _ _ _ hi
    simp only [List.map_cons, List.map_nil] at hS
    rw [he]
    unfold Ins.v at hI
    have hx : (m.code.map Ins.v)[i]? = some m.code[i].v := by simp [hi]
    simp [L73_0, h1, hw, hI, hS, idxOk, Mth.cells, hx, Ins.v]
  · simp [L73_0, Mth.cells]

theorem mLoop1 (m : Mth) (hm : m.Wf) : cv tab prim (.loop L73_1) { env := [(1, .cptr m.cells), (3, .int .i64 (m.size1 m.code.length)), (5, .int .i64 0)], mem := [[], [], []] } = some (.exit 2, { env := [(3, .int .i64 (m.size2 m.hs.length))], mem := [[], [], []] }) := by
  refine loop_all (fun i => { env := [(1, .cptr m.cells), (3, .int .i64 (m.size2 i)), (5, .int .i64 (i : Int))], mem := [[], [], []] }) m.hs.length _ (fun i hi => ?_) ?_ (by simp)
  · have h1 : (i : Int) < (m.hs.length : Int) := by omega
    have hw := wrap_succ hi hm.hs
    have hS := ev_Sum (m.size2 i) [(m.hs[i].c.length : Int)] (by simp) (m.size2_pos i) (by simp) false
    have he : m.size2 (i + 1) = sumF (m.size2 i) [(m.hs[i].c.length : Int)] := foldl_take _ _ _ _ hi
    simp only [List.map_cons, List.map_nil] at hS
    rw [he]
    have hx : (m.hs.map Hnd.v)[i]? = some m.hs[i].v := by simp [hi]
    simp [L73_1, h1, hw, hS, idxOk, Mth.cells, hx, Hnd.v]
  · simp [L73_1, Mth.cells]

theorem ev_MethodSize (m : Mth) (hm : m.Wf) : ev tab prim 73 [m.v] [[], []] = some (.int .i64 m.size, [[], []]) := by
  have hS := ev_Sum 1 [(m.n.length : Int), (m.d.length : Int), (m.code.length : Int), (m.hs.length : Int)] (by simp) (by omega) (by simp) false
  have h0 := mLoop0 m hm
  have h1 := mLoop1 m hm
  simp only [List.map_cons, List.map_nil] at hS
  unfold Mth.size0 at h0
  unfold Mth.v
  rw [ev_fn' tab prim (f := 73) rfl _ _ rfl]
  unfold Mth.cells at h0 h1 ⊢
  simp [hS, h0, h1, Mth.size]

theorem cLoop0 (c : Cls) (hc : c.Wf) : cv tab prim (.loop L37_0) { env := [(1, .cptr c.cells), (3, .int .i64 c.size0), (4, .int .i64 0)], mem := [[], [], []] } = some (.exit 0, { env := [(1, .cptr c.cells), (3, .int .i64 (c.size1 c.im.length))], mem := [[], [], []] }) := by
  refine loop_all (fun i => { env := [(1, .cptr c.cells), (3, .int .i64 (c.size1 i)), (4, .int .i64 (i : Int))], mem := [[], [], []] }) c.im.length _ (fun i hi => ?_) ?_ (by simp)
  · have h1 : (i : Int) < (c.im.length : Int) := by omega
    have hw := wrap_succ hi hc.im
    have hS := ev_Sum (c.size1 i) [1, (c.im[i].length : Int)] (by simp) (c.size1_pos i) (by simp) false
    have he : c.size1 (i + 1) = sumF (c.size1 i) [1, (c.im[i].length : Int)] := foldl_take _ _ _ _ hi
    simp only [List.map_cons, List.map_nil] at hS
    rw [he]
    have hx : (c.im.map V.str)[i]? = some (.str c.im[i]) := by simp [hi]
    simp [L37_0, h1, hw, hS, idxOk, Cls.cells, hx]
  · simp [L37_0, Cls.cells]

theorem cLoop1 (c : Cls) (hc : c.Wf) : cv tab prim (.loop L37_1) { env := [(1, .cptr c.cells), (3, .int .i64 (c.size1 c.im.length)), (5, .int .i64 0)], mem := [[], [], []] } = some (.exit 2, { env := [(1, .cptr c.cells), (3, .int .i64 (c.size2 c.fs.length))], mem := [[], [], []] }) := by
  refine loop_all (fun i => { env := [(1, .cptr c.cells), (3, .int .i64 (c.size2 i)), (5, .int .i64 (i : Int))], mem := [[], [], []] }) c.fs.length _ (fun i hi => ?_) ?_ (by simp)
  · have h1 : (i : Int) < (c.fs.length : Int) := by omega
    have hw := wrap_succ hi hc.fs
    have hS := ev_Sum (c.size2 i) [1, (c.fs[i].n.length : Int), (c.fs[i].d.length : Int)] (by simp) (c.size2_pos i) (by simp) false
    have he : c.size2 (i + 1) = sumF (c.size2 i) [1, (c.fs[i].n.length : Int), (c.fs[i].d.length : Int)] := foldl_take _ _ _ _ hi
    simp only [List.map_cons, List.map_nil] at hS
    rw [he]
    have hx : (c.fs.map Fld.v)[i]? = some c.fs[i].v := by simp [hi]
    simp [L37_1, h1, hw, hS, idxOk, Cls.cells, hx, Fld.v]
  · simp [L37_1, Cls.cells]

theorem cLoop2 (c : Cls) (hc : c.Wf) : cv tab prim (.loop L37_2) { env := [(1, .cptr c.cells), (3, .int .i64 (c.size2 c.fs.length)), (6, .int .i64 0)], mem := [[], [], []] } = some (.exit 4, { env := [(3, .int .i64 (c.size3 c.ms.length))], mem := [[], [], []] }) := by
  refine loop_all (fun i => { env := [(1, .cptr c.cells), (3, .int .i64 (c.size3 i)), (6, .int .i64 (i : Int))], mem := [[], [], []] }) c.ms.length _ (fun i hi => ?_) ?_ (by simp)
  · have h1 : (i : Int) < (c.ms.length : Int) := by omega
    have hw := wrap_succ hi hc.ms
    have hM := ev_MethodSize c.ms[i] (hc.mss _ (List.getElem_mem hi))
    have hS := ev_Sum (c.size3 i) [c.ms[i].size] (by simp) (c.size3_pos i) (by simp [Mth.size_pos]) false
    have he : c.size3 (i + 1) = sumF (c.size3 i) [c.ms[i].size] := foldl_take _ _ _ _ hi
    simp only [List.map_cons, List.map_nil] at hS
    rw [he]
    unfold Mth.v Mth.cells at hM
    have hx : (c.ms.map Mth.v)[i]? = some c.ms[i].v := by simp [hi]
    simp [L37_2, h1, hw, hM, hS, idxOk, Cls.cells, hx, Mth.v, Mth.cells]
  · simp [L37_2, Cls.cells]

theorem ev_ClassSize (c : Cls) (hc : c.Wf) : ev tab prim 37 [c.v] [[], []] = some (.int .i64 c.size, [[], []]) := by
  have hS := ev_Sum 1 [(c.n.length : Int), (c.s.length : Int)] (by simp) (by omega) (by simp) false
  have h0 := cLoop0 c hc
  have h1 := cLoop1 c hc
  have h2 := cLoop2 c hc
  simp only [List.map_cons, List.map_nil] at hS
  unfold Cls.size0 at h0
  unfold Cls.v
  rw [ev_fn' tab prim (f := 37) rfl _ _ rfl]
  unfold Cls.cells at h0 h1 h2 ⊢
  simp [hS, h0, h1, h2, Cls.size]

end Go.Proofs.YtpajgenngpjbaaaGreat.Ev

/- The law of classes that are the same. -/
namespace Go.Proofs.YtpajgenngpjbaaaGreat.Ev
open Go

/-! Classes that are the same. -/
def eqF {α β : Type} (f : α → β → Bool) : List α → List β → Bool
  | [], [] => true
  | x :: r, y :: s => f x y && eqF f r s
  | _, _ => false

theorem eqF_len {α β : Type} {f : α → β → Bool} : ∀ {l : List α} {k : List β}, eqF f l k = true → l.length = k.length
  | [], [], _ => rfl
  | _ :: r, _ :: s, h => by simp only [eqF, Bool.and_eq_true] at h; simp [eqF_len h.2]
theorem eqF_iff {α β : Type} (f : α → β → Bool) : ∀ (l : List α) (k : List β), eqF f l k = true ↔ l.length = k.length ∧ ∀ (i : Nat) (h : i < l.length) (h' : i < k.length), f l[i] k[i] = true
  | [], [] => by simp [eqF]
  | [], _ :: _ => by simp [eqF]
  | _ :: _, [] => by simp [eqF]
  | x :: r, y :: s => by
    simp only [eqF, Bool.and_eq_true, eqF_iff f r s, List.length_cons, Nat.add_right_cancel_iff]
    constructor
    · rintro ⟨h1, h2, h3⟩
      refine ⟨h2, fun i hi hi' => ?_⟩
      cases i with
      | zero => exact h1
      | succ i => exact h3 i (by omega) (by omega)
    · rintro ⟨h2, h3⟩
      exact ⟨h3 0 (by omega) (by omega), h2, fun i hi hi' => h3 (i + 1) (by omega) (by omega)⟩
theorem eqF_refl {α : Type} {f : α → α → Bool} {l : List α} (h : ∀ x ∈ l, f x x = true) : eqF f l l = true :=
  (eqF_iff f l l).2 ⟨rfl, fun _ hi _ => h _ (List.getElem_mem hi)⟩
theorem eqF_congr {α β : Type} {f g : α → β → Bool} (h : ∀ x y, f x y = g x y) : ∀ (l : List α) (k : List β), eqF f l k = eqF g l k
  | [], [] => rfl
  | [], _ :: _ => rfl
  | _ :: _, [] => rfl
  | x :: r, y :: s => by simp only [eqF, h, eqF_congr h r s]

/-- A loop that goes through two rows as long as each other. -/
theorem loop_eq {α β : Type} (f : α → β → Bool) (l : List α) (k : List β) (hl : l.length = k.length) {b : ACode} (st : Nat → St) (out bad : AExit × St)
    (h1 : ∀ i (h : i < l.length) (h' : i < k.length), f l[i] k[i] = true → cv tab prim b (st i) = some (.normal, st (i + 1)))
    (h2 : ∀ i (h : i < l.length) (h' : i < k.length), f l[i] k[i] = false → cv tab prim b (st i) = some bad)
    (h3 : cv tab prim b (st l.length) = some out) (ho : out.1 ≠ .normal) (hb : bad.1 ≠ .normal) :
    cv tab prim (.loop b) (st 0) = some (if eqF f l k = true then out else bad) := by
  have hp : ∀ (i : Nat) (h : i < l.length) (h' : i < k.length), (if h : i < l.length ∧ i < k.length then f l[i] k[i] else true) = f l[i] k[i] := fun i h h' => dif_pos ⟨h, h'⟩
  rw [loop_find st l.length (fun i => if h : i < l.length ∧ i < k.length then f l[i] k[i] else true) out bad (fun i hi h => ?_) (fun i hi h => ?_) h3 ho hb]
  · refine congrArg some ?_
    by_cases h : eqF f l k = true
    · rw [if_pos h, if_pos]
      intro i hi
      rw [hp i hi (by omega)]
      exact ((eqF_iff f l k).1 h).2 i hi (by omega)
    · rw [if_neg h, if_neg]
      intro hq
      refine h ((eqF_iff f l k).2 ⟨hl, fun i hi hi' => ?_⟩)
      have := hq i hi
      rwa [hp i hi hi'] at this
  · rw [hp i hi (by omega)] at h; exact h1 i hi (by omega) h
  · rw [hp i hi (by omega)] at h; exact h2 i hi (by omega) h

def Ins.same (x y : Ins) : Bool := Ev.same x.o x.a x.b x.c x.n x.d y.o y.a y.b y.c y.n y.d
theorem Ins.same_refl (x : Ins) : x.same x = true := eq6_refl _ _ _ _ _ _
def Fld.eq (x y : Fld) : Bool := x.n == y.n && (x.d == y.d && x.s == y.s)
def Hnd.eq (x y : Hnd) : Bool := x.f == y.f && (x.t == y.t && (x.a == y.a && x.c == y.c))
theorem rseqFld (x y : Fld) (neg : Bool) : rSeq [1, 1, 2] neg [.agg [.str x.n, .str x.d, .bool x.s], .agg [.str y.n, .str y.d, .bool y.s]] = some (.bool (Fld.eq x y != neg)) := by
  unfold Fld.eq
  cases h1 : x.n == y.n <;> cases h2 : x.d == y.d <;> cases x.s <;> cases y.s <;> cases neg <;> simp [h1, h2]
theorem rseqHnd (x y : Hnd) (neg : Bool) : rSeq [0, 0, 0, 1] neg [.agg [.int .i64 x.f, .int .i64 x.t, .int .i64 x.a, .str x.c], .agg [.int .i64 y.f, .int .i64 y.t, .int .i64 y.a, .str y.c]] = some (.bool (Hnd.eq x y != neg)) := by
  unfold Hnd.eq
  cases h1 : x.f == y.f <;> cases h2 : x.t == y.t <;> cases h3 : x.a == y.a <;> cases h4 : x.c == y.c <;> cases neg <;> simp [h1, h2, h3, h4]
theorem Fld.eq_refl (x : Fld) : x.eq x = true := by simp [Fld.eq]
theorem Hnd.eq_refl (x : Hnd) : x.eq x = true := by simp [Hnd.eq]

def Mth.same (m k : Mth) : Bool := m.n == k.n && (m.d == k.d && (m.s == k.s && (m.a == k.a && (m.st == k.st && (m.lo == k.lo && (eqF Ins.same m.code k.code && eqF Hnd.eq m.hs k.hs))))))
theorem Mth.same_refl (m : Mth) : m.same m = true := by simp [Mth.same, eqF_refl fun x _ => Ins.same_refl x, eqF_refl fun x _ => Hnd.eq_refl x]

def Cls.same (c k : Cls) : Bool := c.n == k.n && (c.s == k.s && (c.i == k.i && (c.a == k.a && (eqF (fun x y => x == y) c.im k.im && (eqF Fld.eq c.fs k.fs && eqF Mth.same c.ms k.ms)))))
theorem Cls.same_refl (c : Cls) : c.same c = true := by simp [Cls.same, eqF_refl (f := fun x y => x == y) fun (x : List UInt8) _ => beq_self_eq_true x, eqF_refl fun x _ => Fld.eq_refl x, eqF_refl fun x _ => Mth.same_refl x]

def rsSt (c k : Cls) (r : Env) : St := { env := (2, .cptr c.cells) :: (3, .cptr k.cells) :: r, mem := [[], [], []] }
def rNo : AExit × St := (.ret, { env := [(4, .bool false)], mem := [[], [], []] })

def mmSt (c k : Cls) (i : Nat) (m n : Mth) (r : Env) : St := rsSt c k ((6, .int .i64 i) :: (7, .cptr m.cells) :: (8, .cptr n.cells) :: r)

theorem rseqIns (o a b : Int) (c n d : List UInt8) (o' a' b' : Int) (c' n' d' : List UInt8) :
    rSeq [0, 0, 0, 1, 1, 1] true [.agg [.int .i64 o, .int .i64 a, .int .i64 b, .str c, .str n, .str d], .agg [.int .i64 o', .int .i64 a', .int .i64 b', .str c', .str n', .str d']] =
      some (.bool (!(eq6 o a b c n d o' a' b' c' n' d'))) := by
  unfold eq6
  cases h1 : o == o' <;> cases h2 : a == a' <;> cases h3 : b == b' <;> cases h4 : c == c' <;> cases h5 : n == n' <;> cases h6 : d == d' <;> simp [h1, h2, h3, h4, h5, h6]

end Go.Proofs.YtpajgenngpjbaaaGreat.Ev

/- The pool of a class. -/
namespace Go.Proofs.YtpajgenngpjbaaaGreat.Ev
open Go

abbrev Tx := List UInt8
def add1 (l : List Tx) (s : Tx) : List Tx := bif l.contains s then l else l ++ [s]
def addL (l xs : List Tx) : List Tx := xs.foldl add1 l
theorem addL_append (l xs ys : List Tx) : addL l (xs ++ ys) = addL (addL l xs) ys := List.foldl_append
theorem add1_len (l : List Tx) (s : Tx) : (add1 l s).length ≤ l.length + 1 := by
  unfold add1; cases l.contains s <;> simp
theorem addL_len : ∀ (xs l : List Tx), (addL l xs).length ≤ l.length + xs.length
  | [], l => by simp [addL]
  | x :: r, l => by have := addL_len r (add1 l x); have := add1_len l x; simp only [addL, List.foldl_cons, List.length_cons] at *; omega

/-- The place of a text. -/
def posOf : Nat → List Tx → Tx → Option Nat
  | _, [], _ => none
  | k, x :: r, s => bif s == x then some k else posOf (k + 1) r s
def idxV (k n : Nat) : List V := (List.range' k n).map fun i : Nat => V.int .i64 (i : Int)

theorem posOf_none : ∀ (l : List Tx) (k : Nat) (s : Tx), (posOf k l s).isSome = l.contains s
  | [], k, s => rfl
  | x :: r, k, s => by
    rw [posOf, List.contains_cons]
    cases h : s == x
    · simpa using posOf_none r (k + 1) s
    · simp

theorem findK_pool : ∀ (l : List Tx) (k : Nat) (s : Tx), findK (l.map V.str) (idxV k l.length) (.str s) = (posOf k l s).map fun i : Nat => V.int .i64 (i : Int)
  | [], k, s => rfl
  | x :: r, k, s => by
    have := findK_pool r (k + 1) s
    simp only [idxV, List.length_cons, List.range'_succ, List.map_cons, findK, keyEq, posOf] at this ⊢
    cases h : s == x
    · simpa using this
    · simp

theorem setK_pool : ∀ (l : List Tx) (k : Nat) (s : Tx) (y : V), l.contains s = false → setK (l.map V.str) (idxV k l.length) (.str s) y = (l.map V.str ++ [.str s], idxV k l.length ++ [y])
  | [], k, s, y, _ => rfl
  | x :: r, k, s, y, h => by
    rw [List.contains_cons, Bool.or_eq_false_iff] at h
    have := setK_pool r (k + 1) s y h.2
    simp only [idxV, List.length_cons, List.range'_succ, List.map_cons, setK, keyEq, h.1] at this ⊢
    rw [this]; rfl

theorem idxV_succ (n : Nat) : idxV 0 n ++ [V.int .i64 (n : Int)] = idxV 0 (n + 1) := by
  unfold idxV; rw [List.range'_concat]; simp

/-- The pool in memory, its map ahead of it. -/
def pO (l : List Tx) : Boxes := [(0, [.mapv none (l.map V.str) (idxV 0 l.length)])]
def pA (l : List Tx) : Boxes := [(0, [.list 1 (l.map V.str) true, .mref 0])]
def pM (l : List Tx) : Mem := [pO l, pA l]

theorem addStep (l : List Tx) (xs : List Tx) (b0 b1 : Boxes) (i : Nat) (hi : i < xs.length) (hx : xs.length ≤ 1000000) (hl : l.length ≤ 1000000) :
    cv tab prim L156_0 { env := [(0, .ptr 0 0 0), (8, .list 1 (xs.map V.str) false), (9, .int .i64 xs.length), (10, .int .i64 i)], mem := [] :: b0 :: b1 :: pM l } =
      some (.normal, { env := [(0, .ptr 0 0 0), (8, .list 1 (xs.map V.str) false), (9, .int .i64 xs.length), (10, .int .i64 (i + 1 : Nat))], mem := [] :: b0 :: b1 :: pM (add1 l xs[i]) }) := by
  have a1 : (i : Int) < (xs.length : Int) := by omega
  have hw := wrap_succ hi (by unfold maxLen; omega)
  have hx' : (xs.map V.str)[i]? = some (.str xs[i]) := by simp [hi]
  generalize xs[i] = s at hx'
  have hf := findK_pool l 0 s
  have hp := posOf_none l 0 s
  cases h : l.contains s
  · rw [h] at hp
    have hs := setK_pool l 0 s (.int .i64 l.length) h
    rw [idxV_succ] at hs
    have hn : posOf 0 l s = none := by cases hq : posOf 0 l s with
      | none => rfl
      | some _ => rw [hq] at hp; cases hp
    rw [hn] at hf
    have c1 : (l.length + 1) * 16 ≤ 140737488355328 := by omega
    have c2 : l.length + 1 ≤ 140737488355328 := by omega
    have ha : add1 l s = l ++ [s] := by simp only [add1, h]; rfl
    rw [ha]
    simp [L156_0, pM, pO, pA, a1, hw, idxOk, hx', hf, hs, mapAns, c1, c2]
  · rw [h] at hp
    obtain ⟨p, hn⟩ := Option.isSome_iff_exists.1 hp
    rw [hn] at hf
    have ha : add1 l s = l := by simp only [add1, h]; rfl
    rw [ha]
    simp [L156_0, pM, pO, pA, a1, hw, idxOk, hx', hf, mapAns]

theorem addL_take (l xs : List Tx) (i : Nat) (h : i < xs.length) : addL l (xs.take (i + 1)) = add1 (addL l (xs.take i)) xs[i] := foldl_take _ _ _ _ h

theorem ev_add (l xs : List Tx) (b0 b1 : Boxes) (o : Bool) (hx : l.length + xs.length ≤ 1000000) :
    ev tab prim 156 [.ptr 0 0 0, .list 1 (xs.map V.str) o] (b0 :: b1 :: pM l) = some (.tup [], b0 :: b1 :: pM (addL l xs)) := by
  have hL := loop_all (b := L156_0) (fun i => { env := [(0, .ptr 0 0 0), (8, .list 1 (xs.map V.str) false), (9, .int .i64 xs.length), (10, .int .i64 i)], mem := [] :: b0 :: b1 :: pM (addL l (xs.take i)) }) xs.length (.exit 0, { env := [], mem := [] :: b0 :: b1 :: pM (addL l xs) })
    (fun i hi => by
      rw [addStep _ xs b0 b1 i hi (by omega) (by have := addL_len (xs.take i) l; rw [List.length_take] at this; omega), addL_take l xs i hi])
    (by rw [List.take_length]; simp [L156_0]) (by simp)
  simp only [Int.natCast_zero, List.take_zero] at hL
  rw [show addL l [] = l from rfl] at hL
  rw [ev_fn' tab prim (f := 156) rfl _ _ rfl]
  simp [hL]

def Ins.texts (x : Ins) : List Tx := (bif rowB x.o 3 then [x.c] else []) ++ ((bif rowB x.o 4 then [x.n] else []) ++ (bif rowB x.o 5 then [x.d] else []))

set_option maxHeartbeats 4000000 in
theorem ev_texts (x : Ins) : ev tab prim 157 [x.v] [[], []] = some (.list 1 (x.texts.map V.str) true, [[], []]) := by
  have h40 := ev152 x.o
  rw [shapeOf_eq] at h40
  unfold Ins.v Ins.texts
  rw [ev_fn' tab prim (f := 157) rfl _ _ rfl]
  cases h3 : rowB x.o 3 <;> cases h4 : rowB x.o 4 <;> cases h5 : rowB x.o 5 <;> rw [h3, h4, h5] at h40 <;> simp [h40]

end Go.Proofs.YtpajgenngpjbaaaGreat.Ev

/- The pool of a class, as the program makes it. -/
namespace Go.Proofs.YtpajgenngpjbaaaGreat.Ev
open Go

def fT (f : Fld) : List Tx := [f.n, f.d]
def mT (m : Mth) : List Tx := [m.n, m.d] ++ (m.code.flatMap Ins.texts ++ m.hs.map (·.c))
def Cls.texts (c : Cls) : List Tx := [c.n, c.s] ++ (c.im ++ (c.fs.flatMap fT ++ c.ms.flatMap mT))
def Cls.pool (c : Cls) : List Tx := addL [] c.texts

theorem flatMap_take {α β : Type} (f : α → List β) (l : List α) (i : Nat) (h : i < l.length) : (l.take (i + 1)).flatMap f = (l.take i).flatMap f ++ f l[i] := by
  rw [List.take_succ_eq_append_getElem h, List.flatMap_append]; simp
theorem flatMap_le {α β : Type} (f : α → List β) (l : List α) (i : Nat) (h : i < l.length) : ((l.take i).flatMap f).length + (f l[i]).length ≤ (l.flatMap f).length := by
  have : l.flatMap f = (l.take (i + 1)).flatMap f ++ (l.drop (i + 1)).flatMap f := by rw [← List.flatMap_append, List.take_append_drop]
  rw [this, flatMap_take f l i h]; simp only [List.length_append]; omega
theorem mem_len {α β : Type} (f : α → List β) (l : List α) (i : Nat) : ((l.take i).flatMap f).length ≤ (l.flatMap f).length := by
  have : l.flatMap f = (l.take i).flatMap f ++ (l.drop i).flatMap f := by rw [← List.flatMap_append, List.take_append_drop]
  rw [this, List.length_append]; omega

theorem pLoop0 (c : Cls) (hc : c.Wf) (l0 : List Tx) (b1 : Boxes) (hn : l0.length + (c.fs.flatMap fT).length ≤ 1000000) :
    cv tab prim (.loop L122_0) { env := [(1, .cptr c.cells), (3, .ptr 0 0 0), (27, .list 3 (c.fs.map Fld.v) false), (28, .int .i64 c.fs.length), (29, .int .i64 0)], mem := [] :: b1 :: pM l0 } =
      some (.exit 0, { env := [(1, .cptr c.cells), (3, .ptr 0 0 0)], mem := [] :: b1 :: pM (addL l0 (c.fs.flatMap fT)) }) := by
  refine loop_all (fun i => { env := [(1, .cptr c.cells), (3, .ptr 0 0 0), (27, .list 3 (c.fs.map Fld.v) false), (28, .int .i64 c.fs.length), (29, .int .i64 i)], mem := [] :: b1 :: pM (addL l0 ((c.fs.take i).flatMap fT)) }) c.fs.length _ (fun i hi => ?_) ?_ (by simp)
  · have a1 : (i : Int) < (c.fs.length : Int) := by omega
    have hw := wrap_succ hi hc.fs
    have hx : (c.fs.map Fld.v)[i]? = some (Fld.v c.fs[i]) := by simp [hi]
    have hle := flatMap_le fT c.fs i hi
    have hp := addL_len ((c.fs.take i).flatMap fT) l0
    rw [flatMap_take fT c.fs i hi, addL_append]
    have hA := ev_add (addL l0 ((c.fs.take i).flatMap fT)) (fT c.fs[i]) [] b1 false (by omega)
    simp only [fT, List.map_cons, List.map_nil] at hA
    simp only [fT] at hA ⊢
    generalize addL l0 _ = l at hA ⊢
    simp [L122_0, a1, hw, idxOk, hx, Fld.v, hA]
  · rw [List.take_length]; simp [L122_0]

def qE (c : Cls) (m : Mth) (i : Nat) (r : Env) : Env := (3, .ptr 0 0 0) :: (7, .cptr m.cells) :: (42, .list 8 (c.ms.map Mth.v) false) :: (43, .int .i64 c.ms.length) :: (44, .int .i64 i) :: r
def qE' (c : Cls) (i : Nat) (r : Env) : Env := (3, .ptr 0 0 0) :: (42, .list 8 (c.ms.map Mth.v) false) :: (43, .int .i64 c.ms.length) :: (44, .int .i64 i) :: r

theorem pLoop1 (c : Cls) (m : Mth) (hm : m.Wf) (j : Nat) (l0 : List Tx) (b1 : Boxes) (hn : l0.length + (m.code.flatMap Ins.texts).length ≤ 1000000) :
    cv tab prim (.loop L122_1) { env := qE c m j [(56, .list 6 (m.code.map Ins.v) false), (57, .int .i64 m.code.length), (58, .int .i64 0)], mem := [] :: b1 :: pM l0 } =
      some (.exit 4, { env := qE c m j [], mem := [] :: b1 :: pM (addL l0 (m.code.flatMap Ins.texts)) }) := by
  refine loop_all (fun i => { env := qE c m j [(56, .list 6 (m.code.map Ins.v) false), (57, .int .i64 m.code.length), (58, .int .i64 i)], mem := [] :: b1 :: pM (addL l0 ((m.code.take i).flatMap Ins.texts)) }) m.code.length _ (fun i hi => ?_) ?_ (by simp)
  · have a1 : (i : Int) < (m.code.length : Int) := by omega
    have hw := wrap_succ hi hm.code
    have hx : (m.code.map Ins.v)[i]? = some (Ins.v m.code[i]) := by simp [hi]
    have hle := flatMap_le Ins.texts m.code i hi
    have hp := addL_len ((m.code.take i).flatMap Ins.texts) l0
    rw [flatMap_take Ins.texts m.code i hi, addL_append]
    have hT := ev_texts m.code[i]
    have hA := ev_add (addL l0 ((m.code.take i).flatMap Ins.texts)) m.code[i].texts [] b1 false (by omega)
    generalize m.code[i].texts = tx at hA hT ⊢
    generalize addL l0 _ = l at hA ⊢
    simp only [Ins.v] at hT
    simp [L122_1, qE, a1, hw, idxOk, hx, Ins.v, hT, hA]
  · rw [List.take_length]; simp [L122_1, qE]

theorem pLoop2 (c : Cls) (m : Mth) (hm : m.Wf) (j : Nat) (l0 : List Tx) (b1 : Boxes) (hn : l0.length + m.hs.length ≤ 1000000) :
    cv tab prim (.loop L122_2) { env := qE' c j [(68, .list 4 (m.hs.map Hnd.v) false), (69, .int .i64 m.hs.length), (70, .int .i64 0)], mem := [] :: b1 :: pM l0 } =
      some (.exit 6, { env := qE' c j [], mem := [] :: b1 :: pM (addL l0 (m.hs.map (·.c))) }) := by
  refine loop_all (fun i => { env := qE' c j [(68, .list 4 (m.hs.map Hnd.v) false), (69, .int .i64 m.hs.length), (70, .int .i64 i)], mem := [] :: b1 :: pM (addL l0 ((m.hs.map (·.c)).take i)) }) m.hs.length _ (fun i hi => ?_) ?_ (by simp)
  · have a1 : (i : Int) < (m.hs.length : Int) := by omega
    have hw := wrap_succ hi hm.hs
    have hx : (m.hs.map Hnd.v)[i]? = some (Hnd.v m.hs[i]) := by simp [hi]
    have hp := addL_len ((m.hs.map (·.c)).take i) l0
    rw [List.length_take, List.length_map] at hp
    rw [addL_take _ _ _ (by simpa using hi)]
    have hA := ev_add (addL l0 ((m.hs.map (·.c)).take i)) [m.hs[i].c] [] b1 false (by simp only [List.length_cons, List.length_nil]; omega)
    simp only [List.map_cons, List.map_nil] at hA
    rw [show ∀ l s, addL l [s] = add1 l s from fun _ _ => rfl] at hA
    simp only [List.getElem_map]
    generalize addL l0 _ = l at hA ⊢
    simp [L122_2, qE', a1, hw, idxOk, hx, Hnd.v, hA]
  · rw [List.take_of_length_le (by simp)]; simp [L122_2, qE']

theorem pLoop3 (c : Cls) (hc : c.Wf) (l0 : List Tx) (b1 : Boxes) (hn : l0.length + (c.ms.flatMap mT).length ≤ 1000000) :
    cv tab prim (.loop L122_3) { env := qE' c 0 [], mem := [] :: b1 :: pM l0 } =
      some (.exit 2, { env := [(3, .ptr 0 0 0)], mem := [] :: b1 :: pM (addL l0 (c.ms.flatMap mT)) }) := by
  refine loop_all (fun i => { env := qE' c i [], mem := [] :: b1 :: pM (addL l0 ((c.ms.take i).flatMap mT)) }) c.ms.length _ (fun i hi => ?_) ?_ (by simp)
  · have a1 : (i : Int) < (c.ms.length : Int) := by omega
    have hw := wrap_succ hi hc.ms
    have hx : (c.ms.map Mth.v)[i]? = some (Mth.v c.ms[i]) := by simp [hi]
    have hm := hc.mss _ (List.getElem_mem hi)
    have hle := flatMap_le mT c.ms i hi
    have hp := addL_len ((c.ms.take i).flatMap mT) l0
    rw [flatMap_take mT c.ms i hi, addL_append]
    generalize c.ms[i] = m at hx hm hle ⊢
    generalize addL l0 _ = l at hp ⊢
    have hlen : (mT m).length = 2 + ((m.code.flatMap Ins.texts).length + m.hs.length) := by simp only [mT, List.length_append, List.length_map, List.length_cons, List.length_nil]
    have hA := ev_add l [m.n, m.d] [] b1 false (by simp only [List.length_cons, List.length_nil]; omega)
    have q1 := addL_len [m.n, m.d] l
    have q2 := addL_len (m.code.flatMap Ins.texts) (addL l [m.n, m.d])
    simp only [List.length_cons, List.length_nil] at q1
    have h1 := pLoop1 c m hm i (addL l [m.n, m.d]) b1 (by omega)
    have h2 := pLoop2 c m hm i (addL (addL l [m.n, m.d]) (m.code.flatMap Ins.texts)) b1 (by omega)
    rw [show addL l (mT m) = addL (addL (addL l [m.n, m.d]) (m.code.flatMap Ins.texts)) (m.hs.map (·.c)) from by rw [mT, addL_append, addL_append]]
    generalize addL (addL (addL l [m.n, m.d]) (m.code.flatMap Ins.texts)) (m.hs.map (·.c)) = l3 at h2 ⊢
    generalize addL (addL l [m.n, m.d]) (m.code.flatMap Ins.texts) = l2 at h1 h2
    generalize addL l [m.n, m.d] = l1 at hA h1
    simp only [List.map_cons, List.map_nil] at hA
    simp only [qE, qE', Mth.cells] at h1 h2
    simp [L122_3, qE', a1, hw, idxOk, hx, Mth.v, Mth.cells, hA, h1, h2]
  · rw [List.take_length]; simp [L122_3, qE']

theorem ev_poolOf (c : Cls) (hc : c.Wf) (hn : c.texts.length ≤ 1000000) : ev tab prim 122 [c.v] [[], [], []] = some (.ptr 0 0 0, [] :: pM c.pool) := by
  have hlen : c.texts.length = 2 + (c.im.length + ((c.fs.flatMap fT).length + (c.ms.flatMap mT).length)) := by simp only [Cls.texts, List.length_append, List.length_cons, List.length_nil]
  have hA := ev_add [] [c.n, c.s] [] [] false (by simp)
  have q1 := addL_len [c.n, c.s] []
  have q2 := addL_len c.im (addL [] [c.n, c.s])
  have q3 := addL_len (c.fs.flatMap fT) (addL (addL [] [c.n, c.s]) c.im)
  simp only [List.length_cons, List.length_nil] at q1
  have hB := ev_add (addL [] [c.n, c.s]) c.im [] [] false (by omega)
  have h0 := pLoop0 c hc (addL (addL [] [c.n, c.s]) c.im) [] (by omega)
  have h3 := pLoop3 c hc (addL (addL (addL [] [c.n, c.s]) c.im) (c.fs.flatMap fT)) [] (by omega)
  rw [show c.pool = addL (addL (addL (addL [] [c.n, c.s]) c.im) (c.fs.flatMap fT)) (c.ms.flatMap mT) from by rw [Cls.pool, Cls.texts, addL_append, addL_append, addL_append]]
  generalize addL (addL (addL (addL [] [c.n, c.s]) c.im) (c.fs.flatMap fT)) (c.ms.flatMap mT) = l4 at h3 ⊢
  generalize addL (addL (addL [] [c.n, c.s]) c.im) (c.fs.flatMap fT) = l3 at h0 h3
  generalize addL (addL [] [c.n, c.s]) c.im = l2 at hB h0
  generalize addL [] [c.n, c.s] = l1 at hA hB
  simp only [List.map_cons, List.map_nil] at hA
  have e0 : pM [] = [[(0, [.mapv none [] []])], [(0, [.list 1 [] true, .mref 0])]] := rfl
  rw [e0] at hA
  simp only [qE', Int.natCast_zero] at h3
  unfold Cls.v
  rw [ev_fn' tab prim (f := 122) rfl _ _ rfl]
  unfold Cls.cells at h0 ⊢
  simp [hA, hB, h0, h3]

theorem ev_Pool (c : Cls) (hc : c.Wf) (hn : c.texts.length ≤ 1000000) : ev tab prim 79 [c.v] [[], []] = some (.list 1 (c.pool.map V.str) true, [pO c.pool, [(0, [.list 1 (c.pool.map V.str) false, .mref 0])]]) := by
  have h := ev_poolOf c hc hn
  unfold Cls.v Cls.cells at h ⊢
  rw [ev_fn' tab prim (f := 79) rfl _ _ rfl]
  simp [h, pM, pO, pA]

end Go.Proofs.YtpajgenngpjbaaaGreat.Ev

/- What a class that is not too big is. -/
namespace Go.Proofs.YtpajgenngpjbaaaGreat.Ev
open Go

theorem sum_nonneg : ∀ {l : List Int}, (∀ x ∈ l, 0 ≤ x) → 0 ≤ l.sum
  | [], _ => by simp
  | a :: r, h => by rw [List.sum_cons]; have := sum_nonneg fun x hx => h x (List.mem_cons_of_mem a hx); have := h a (by simp); omega
theorem le_sum : ∀ {l : List Int}, (∀ x ∈ l, 0 ≤ x) → ∀ x ∈ l, x ≤ l.sum
  | a :: r, h, x, hx => by
    rw [List.sum_cons]
    have h1 := sum_nonneg fun x hx => h x (List.mem_cons_of_mem a hx)
    have h2 := h a (by simp)
    rcases List.mem_cons.1 hx with rfl | hx
    · omega
    · have := le_sum (fun x hx => h x (List.mem_cons_of_mem a hx)) x hx; omega
theorem le_sum_map {α : Type} (g : α → Int) (hg : ∀ a, 0 ≤ g a) (l : List α) (a : α) (h : a ∈ l) : g a ≤ (l.map g).sum :=
  le_sum (by intro x hx; obtain ⟨b, _, rfl⟩ := List.mem_map.1 hx; exact hg b) _ (List.mem_map_of_mem h)
theorem sum_map_nonneg {α : Type} (g : α → Int) (hg : ∀ a, 0 ≤ g a) (l : List α) : 0 ≤ (l.map g).sum :=
  sum_nonneg (by intro x hx; obtain ⟨b, _, rfl⟩ := List.mem_map.1 hx; exact hg b)
theorem len_le_sum {α : Type} (g : α → Int) (k : Int) (hk : 0 ≤ k) : ∀ (l : List α), (∀ a ∈ l, 1 ≤ k * g a) → (l.length : Int) ≤ k * (l.map g).sum
  | [], _ => by simp
  | a :: r, hg => by
    have := len_le_sum g k hk r fun b hb => hg b (by simp [hb])
    have := hg a (by simp)
    rw [List.map_cons, List.sum_cons, List.length_cons, Int.mul_add]; omega

theorem sumF_eq {n : Int} {xs : List Int} (hn : 0 ≤ n) (hx : ∀ x ∈ xs, 0 ≤ x) (h : sumF n xs ≤ 12000) : sumF n xs = n + xs.sum := (sumF_held xs n hn hx).2 (by omega)

theorem foldl_eq {α : Type} (f : Int → α → Int) (g : α → Int) (hg : ∀ a, 0 ≤ g a) (hp : ∀ n a, 0 ≤ n → 0 ≤ f n a) (hf : ∀ n a, 0 ≤ n → f n a ≤ 12000 → f n a = n + g a) :
    ∀ (l : List α) (n : Int), 0 ≤ n → l.foldl f n ≤ 12000 → l.foldl f n = n + (l.map g).sum
  | [], n, _, _ => by simp
  | a :: l, n, hn, h => by
    have ih := foldl_eq f g hg hp hf l (f n a) (hp n a hn) h
    rw [List.foldl_cons] at h ⊢
    have hs := sum_map_nonneg g hg l
    have := hf n a hn (by omega)
    rw [List.map_cons, List.sum_cons]; omega

theorem Ins.size_eq (x : Ins) (h : x.size ≤ 12000) : x.size = 1 + (x.c.length + (x.n.length + x.d.length)) := by
  have := sumF_eq (n := 1) (xs := [(x.c.length : Int), (x.n.length : Int), (x.d.length : Int)]) (by omega) (by simp) h
  simpa [Ins.size] using this
theorem Mth.size_eq (m : Mth) (h : m.size ≤ 12000) : m.size = 1 + (m.n.length + (m.d.length + (m.code.length + m.hs.length))) + (m.code.map Ins.size).sum + (m.hs.map fun x => (x.c.length : Int)).sum := by
  have e2 : m.size = m.size1 m.code.length + (m.hs.map fun x => (x.c.length : Int)).sum := by
    have := foldl_eq (fun n (x : Hnd) => sumF n [(x.c.length : Int)]) (fun x => (x.c.length : Int)) (by simp) (fun n a hn => sumF_pos hn (by simp)) (fun n a hn hh => by rw [sumF_eq hn (by simp) hh]; simp) (m.hs.take m.hs.length) (m.size1 m.code.length) (m.size1_pos _) h
    rw [List.take_length] at this
    rw [← this, Mth.size, Mth.size2, List.take_length]
  have p2 := sum_map_nonneg (fun x : Hnd => (x.c.length : Int)) (by simp) m.hs
  have h1 : m.size1 m.code.length ≤ 12000 := by omega
  have e1 : m.size1 m.code.length = m.size0 + (m.code.map Ins.size).sum := by
    have := foldl_eq (fun n (x : Ins) => sumF n [x.size]) Ins.size Ins.size_pos (fun n a hn => sumF_pos hn (by simp [Ins.size_pos])) (fun n a hn hh => by rw [sumF_eq hn (by simp [Ins.size_pos]) hh]; simp) (m.code.take m.code.length) m.size0 (sumF_pos (by omega) (by simp)) h1
    rw [List.take_length] at this
    rw [← this, Mth.size1, List.take_length]
  have p1 := sum_map_nonneg Ins.size Ins.size_pos m.code
  have e0 := sumF_eq (n := 1) (xs := [(m.n.length : Int), (m.d.length : Int), (m.code.length : Int), (m.hs.length : Int)]) (by omega) (by simp) (show m.size0 ≤ 12000 by omega)
  have e0' : m.size0 = 1 + (m.n.length + (m.d.length + (m.code.length + m.hs.length))) := by simpa [Mth.size0] using e0
  omega
theorem Cls.size_eq (c : Cls) (h : c.size ≤ 12000) : c.size = 1 + (c.n.length + c.s.length) + (c.im.map fun s => 1 + (s.length : Int)).sum + (c.fs.map fun f => 1 + ((f.n.length : Int) + f.d.length)).sum + (c.ms.map Mth.size).sum := by
  have e3 : c.size = c.size2 c.fs.length + (c.ms.map Mth.size).sum := by
    have := foldl_eq (fun n (x : Mth) => sumF n [x.size]) Mth.size Mth.size_pos (fun n a hn => sumF_pos hn (by simp [Mth.size_pos])) (fun n a hn hh => by rw [sumF_eq hn (by simp [Mth.size_pos]) hh]; simp) (c.ms.take c.ms.length) (c.size2 c.fs.length) (c.size2_pos _) h
    rw [List.take_length] at this
    rw [← this, Cls.size, Cls.size3, List.take_length]
  have p3 := sum_map_nonneg Mth.size Mth.size_pos c.ms
  have e2 : c.size2 c.fs.length = c.size1 c.im.length + (c.fs.map fun f => 1 + ((f.n.length : Int) + f.d.length)).sum := by
    have := foldl_eq (fun n (x : Fld) => sumF n [1, (x.n.length : Int), (x.d.length : Int)]) (fun f => 1 + ((f.n.length : Int) + f.d.length)) (fun a => by omega) (fun n a hn => sumF_pos hn (by simp)) (fun n a hn hh => by rw [sumF_eq hn (by simp) hh]; simp) (c.fs.take c.fs.length) (c.size1 c.im.length) (c.size1_pos _) (show c.size2 c.fs.length ≤ 12000 by omega)
    rw [List.take_length] at this
    rw [← this, Cls.size2, List.take_length]
  have p2 := sum_map_nonneg (fun f : Fld => 1 + ((f.n.length : Int) + f.d.length)) (fun a => by omega) c.fs
  have e1 : c.size1 c.im.length = c.size0 + (c.im.map fun s => 1 + (s.length : Int)).sum := by
    have := foldl_eq (fun n (x : List UInt8) => sumF n [1, (x.length : Int)]) (fun s => 1 + (s.length : Int)) (fun a => by omega) (fun n a hn => sumF_pos hn (by simp)) (fun n a hn hh => by rw [sumF_eq hn (by simp) hh]; simp) (c.im.take c.im.length) c.size0 (sumF_pos (by omega) (by simp)) (show c.size1 c.im.length ≤ 12000 by omega)
    rw [List.take_length] at this
    rw [← this, Cls.size1, List.take_length]
  have p1 := sum_map_nonneg (fun s : List UInt8 => 1 + (s.length : Int)) (fun a => by omega) c.im
  have e0 := sumF_eq (n := 1) (xs := [(c.n.length : Int), (c.s.length : Int)]) (by omega) (by simp) (show c.size0 ≤ 12000 by omega)
  have e0' : c.size0 = 1 + (c.n.length + c.s.length) := by simpa [Cls.size0] using e0
  omega

structure Mth.Small (m : Mth) : Prop where
  (n : m.n.length ≤ 65535) (d : m.d.length ≤ 65535) (code : m.code.length ≤ 65535) (hs : m.hs.length ≤ 65535)
  (ins : ∀ x ∈ m.code, x.c.length ≤ 65535 ∧ x.n.length ≤ 65535 ∧ x.d.length ≤ 65535) (hnd : ∀ x ∈ m.hs, x.c.length ≤ 65535)
structure Cls.Small (c : Cls) : Prop where
  (n : c.n.length ≤ 65535) (s : c.s.length ≤ 65535) (im : c.im.length ≤ 65535) (fs : c.fs.length ≤ 65535) (ms : c.ms.length ≤ 65535)
  (ims : ∀ x ∈ c.im, x.length ≤ 65535) (fss : ∀ x ∈ c.fs, x.n.length ≤ 65535 ∧ x.d.length ≤ 65535) (mss : ∀ m ∈ c.ms, m.Small)
  (tx : c.texts.length ≤ 1000000)

theorem Ins.texts_len (x : Ins) : x.texts.length ≤ 3 := by
  unfold Ins.texts; cases rowB x.o 3 <;> cases rowB x.o 4 <;> cases rowB x.o 5 <;> simp
theorem flatMap_len {α β : Type} (f : α → List β) (k : Nat) : ∀ (l : List α), (∀ a ∈ l, (f a).length ≤ k) → (l.flatMap f).length ≤ k * l.length
  | [], _ => by simp
  | a :: r, h => by
    have := flatMap_len f k r fun b hb => h b (by simp [hb])
    have := h a (by simp)
    rw [List.flatMap_cons, List.length_append, List.length_cons, Nat.mul_add]; omega
theorem flatMap_len' {α β : Type} (f : α → List β) (g : α → Int) : ∀ (l : List α), (∀ a ∈ l, ((f a).length : Int) ≤ g a) → ((l.flatMap f).length : Int) ≤ (l.map g).sum
  | [], _ => by simp
  | a :: r, h => by
    have := flatMap_len' f g r fun b hb => h b (by simp [hb])
    have := h a (by simp)
    rw [List.flatMap_cons, List.length_append, List.map_cons, List.sum_cons]; omega
theorem sum_mul {α : Type} (g : α → Int) (k : Int) : ∀ (l : List α), (l.map fun a => k * g a).sum = k * (l.map g).sum
  | [] => by simp
  | a :: r => by rw [List.map_cons, List.sum_cons, List.map_cons, List.sum_cons, sum_mul g k r, Int.mul_add]

theorem Mth.texts_le (m : Mth) (h : m.size ≤ 12000) : ((mT m).length : Int) ≤ 3 * m.size := by
  have e := m.size_eq h
  have p1 := sum_map_nonneg Ins.size Ins.size_pos m.code
  have p2 := sum_map_nonneg (fun x : Hnd => (x.c.length : Int)) (by simp) m.hs
  have := flatMap_len Ins.texts 3 m.code fun a _ => a.texts_len
  simp only [mT, List.length_append, List.length_cons, List.length_nil, List.length_map]
  omega

theorem Mth.small (m : Mth) (h : m.size ≤ 12000) : m.Small := by
  have e := m.size_eq h
  have p1 := sum_map_nonneg Ins.size Ins.size_pos m.code
  have p2 := sum_map_nonneg (fun x : Hnd => (x.c.length : Int)) (by simp) m.hs
  refine ⟨by omega, by omega, by omega, by omega, fun x hx => ?_, fun x hx => ?_⟩
  · have h1 := le_sum_map Ins.size Ins.size_pos m.code x hx
    have := x.size_eq (by omega)
    omega
  · have h1 := le_sum_map (fun x : Hnd => (x.c.length : Int)) (by simp) m.hs x hx
    omega

theorem Cls.small (c : Cls) (h : c.size ≤ 12000) : c.Small := by
  have e := c.size_eq h
  have p1 := sum_map_nonneg (fun s : List UInt8 => 1 + (s.length : Int)) (fun a => by omega) c.im
  have p2 := sum_map_nonneg (fun f : Fld => 1 + ((f.n.length : Int) + f.d.length)) (fun a => by omega) c.fs
  have p3 := sum_map_nonneg Mth.size Mth.size_pos c.ms
  have l1 := len_le_sum (fun s : List UInt8 => 1 + (s.length : Int)) 1 (by omega) c.im (fun a _ => by omega)
  have l2 := len_le_sum (fun f : Fld => 1 + ((f.n.length : Int) + f.d.length)) 1 (by omega) c.fs (fun a _ => by omega)
  have hm : ∀ m ∈ c.ms, m.size ≤ 12000 := fun m hm => by
    have := le_sum_map Mth.size Mth.size_pos c.ms m hm; omega
  have l3 := len_le_sum Mth.size 1 (by omega) c.ms (fun m h' => by
    have e := m.size_eq (hm m h')
    have p1 := sum_map_nonneg Ins.size Ins.size_pos m.code
    have p2 := sum_map_nonneg (fun x : Hnd => (x.c.length : Int)) (by simp) m.hs
    omega)
  refine ⟨by omega, by omega, by omega, by omega, by omega, fun x hx => ?_, fun x hx => ?_, fun m h' => m.small (hm m h'), ?_⟩
  · have h1 := le_sum_map (fun s : List UInt8 => 1 + (s.length : Int)) (fun a => by omega) c.im x hx
    omega
  · have h1 := le_sum_map (fun f : Fld => 1 + ((f.n.length : Int) + f.d.length)) (fun a => by omega) c.fs x hx
    omega
  · have t1 := flatMap_len fT 2 c.fs fun a _ => by simp [fT]
    have t2 := flatMap_len' mT (fun m => 3 * m.size) c.ms fun m h' => m.texts_le (hm m h')
    rw [sum_mul Mth.size 3 c.ms] at t2
    simp only [Cls.texts, List.length_append, List.length_cons, List.length_nil]
    omega

end Go.Proofs.YtpajgenngpjbaaaGreat.Ev

/- The law of pools. -/
namespace Go.Proofs.YtpajgenngpjbaaaGreat.Ev
open Go

def posI : Option Nat → Int
  | some p => p
  | none => -1

theorem inLoop (l : List Tx) (s : Tx) (hl : l.length ≤ maxLen) : ∀ (k i : Nat), i + k = l.length →
    cv tab prim (.loop L60_0) { env := [(0, .list 1 (l.map V.str) false), (1, .str s), (5, .int .i64 (i : Int))], mem := [[], [], []] } =
      some (match posOf i (l.drop i) s with | some p => (.ret, { env := [(4, .int .i64 (p : Int))], mem := [[], [], []] }) | none => (.exit 0, { env := [], mem := [[], [], []] })) := by
  intro k
  induction k with
  | zero =>
    intro i hi
    rw [cv_loop', List.drop_eq_nil_of_le (by omega)]
    have h1 : ¬ (i : Int) < (l.length : Int) := by omega
    simp [L60_0, h1, posOf]
  | succ k ih =>
    intro i hi
    have hlt : i < l.length := by omega
    have h1 : (i : Int) < (l.length : Int) := by omega
    have hw := wrap_succ hlt hl
    have hx : (l.map V.str)[i]? = some (.str l[i]) := by simp [hlt]
    have := ih (i + 1) (by omega)
    rw [cv_loop', List.drop_eq_getElem_cons hlt, posOf]
    cases h : s == l[i]
    · have h' : (l[i] == s) = false := by rw [Bool.beq_comm]; exact h
      rw [cond_false, ← this]
      simp [L60_0, h1, idxOk, hx, hw, h']
    · have h' : (l[i] == s) = true := by rw [Bool.beq_comm]; exact h
      simp [L60_0, h1, idxOk, hx, h']

theorem ev_in (l : List Tx) (s : Tx) (hl : l.length ≤ maxLen) (o : Bool) : ev tab prim 60 [.list 1 (l.map V.str) o, .str s] [[], []] = some (.int .i64 (posI (posOf 0 l s)), [[], []]) := by
  have h := inLoop l s hl l.length 0 (by omega)
  rw [List.drop_zero] at h
  rw [ev_fn' tab prim (f := 60) rfl _ _ rfl]
  simp only [Int.natCast_zero] at h
  cases hp : posOf 0 l s <;> rw [hp] at h <;> simp at h <;> simp [h, posI]

theorem ev_Has (l : List Tx) (s : Tx) (hl : l.length ≤ maxLen) (o : Bool) : ev tab prim 16 [.list 1 (l.map V.str) o, .str s] [[], []] = some (.bool (l.contains s), [[], []]) := by
  have h := ev_in l s hl false
  have hs := posOf_none l 0 s
  rw [ev_fn' tab prim (f := 16) rfl _ _ rfl]
  rw [← hs]
  cases hp : posOf 0 l s <;> rw [hp] at h <;> simp [h, posI]

/-! Each once. -/
theorem add1_nodup {l : List Tx} {s : Tx} (h : l.Nodup) : (add1 l s).Nodup := by
  unfold add1
  cases hc : l.contains s
  · rw [cond_false, List.nodup_append]
    refine ⟨h, by simp, fun a ha b hb => ?_⟩
    rw [List.mem_singleton] at hb
    subst hb
    intro hab
    subst hab
    have : l.contains a = true := by simpa using ha
    rw [hc] at this; cases this
  · exact h
theorem addL_nodup : ∀ (xs : List Tx) {l : List Tx}, l.Nodup → (addL l xs).Nodup
  | [], _, h => h
  | _ :: r, _, h => addL_nodup r (add1_nodup h)
theorem add1_mem {l : List Tx} {s t : Tx} : t ∈ add1 l s ↔ t ∈ l ∨ t = s := by
  unfold add1
  cases hc : l.contains s
  · simp
  · have : s ∈ l := by simpa using hc
    constructor
    · exact fun h => .inl h
    · rintro (h | rfl)
      · exact h
      · exact this
theorem addL_mem : ∀ (xs : List Tx) {l : List Tx} {t : Tx}, t ∈ addL l xs ↔ t ∈ l ∨ t ∈ xs
  | [], l, t => by simp [addL]
  | x :: r, l, t => by
    rw [show addL l (x :: r) = addL (add1 l x) r from rfl, addL_mem r, add1_mem, List.mem_cons, or_assoc]
theorem add1_pre (l : List Tx) (s : Tx) : l <+: add1 l s := by
  unfold add1
  cases l.contains s
  · exact List.prefix_append _ _
  · exact List.prefix_refl _
theorem addL_pre : ∀ (xs l : List Tx), l <+: addL l xs
  | [], l => List.prefix_refl _
  | x :: r, l => (add1_pre l x).trans (addL_pre r _)
theorem take_not {l : List Tx} (h : l.Nodup) (i : Nat) (hi : i < l.length) : (l.take i).contains l[i] = false := by
  rw [Bool.eq_false_iff]
  intro hc
  have hm : l[i] ∈ l.take i := by simpa using hc
  obtain ⟨j, hj, he⟩ := List.mem_take_iff_getElem.1 hm
  exact List.pairwise_iff_getElem.1 h j i (by omega) hi (by omega) he

def kE (c : Cls) (p : List Tx) (r : Env) : Env := (1, .cptr c.cells) :: (3, .list 1 (p.map V.str) false) :: r

theorem pool_head (c : Cls) : ∃ r, c.pool = (if c.s = c.n then [c.n] else [c.n, c.s]) ++ r := by
  have h : c.pool = addL (addL [] [c.n, c.s]) (c.im ++ (c.fs.flatMap fT ++ c.ms.flatMap mT)) := by rw [Cls.pool, Cls.texts, addL_append]
  have h2 : addL [] [c.n, c.s] = if c.s = c.n then [c.n] else [c.n, c.s] := by
    by_cases he : c.s = c.n
    · simp [addL, add1, he]
    · simp [addL, add1, he]
  obtain ⟨r, hr⟩ := addL_pre (c.im ++ (c.fs.flatMap fT ++ c.ms.flatMap mT)) (addL [] [c.n, c.s])
  rw [← h, h2] at hr
  exact ⟨r, hr.symm⟩

end Go.Proofs.YtpajgenngpjbaaaGreat.Ev
