/- The law of instructions that are the same. -/
import Derived.Test.YtgggjclhadlncaaFd
namespace Go.Proofs.Ytgggjclhadlncaa.Ev
open Go

def eq6 (o a b : Int) (c n d : List UInt8) (o' a' b' : Int) (c' n' d' : List UInt8) : Bool := o == o' && (a == a' && (b == b' && (c == c' && (n == n' && d == d'))))

theorem eq6_refl (o a b : Int) (c n d : List UInt8) : eq6 o a b c n d o a b c n d = true := by simp [eq6]
theorem eq6_comm (o a b : Int) (c n d : List UInt8) (o' a' b' : Int) (c' n' d' : List UInt8) : eq6 o' a' b' c' n' d' o a b c n d = eq6 o a b c n d o' a' b' c' n' d' := by
  unfold eq6
  rw [Bool.beq_comm (a := o'), Bool.beq_comm (a := a'), Bool.beq_comm (a := b'), Bool.beq_comm (a := c'), Bool.beq_comm (a := n'), Bool.beq_comm (a := d')]

theorem rseq6 (o a b : Int) (c n d : List UInt8) (o' a' b' : Int) (c' n' d' : List UInt8) :
    rSeq [0, 0, 0, 1, 1, 1] false [.agg [.int .i64 o, .int .i64 a, .int .i64 b, .str c, .str n, .str d], .agg [.int .i64 o', .int .i64 a', .int .i64 b', .str c', .str n', .str d']] =
      some (.bool (eq6 o a b c n d o' a' b' c' n' d')) := by
  unfold eq6
  cases h1 : o == o' <;> cases h2 : a == a' <;> cases h3 : b == b' <;> cases h4 : c == c' <;> cases h5 : n == n' <;> cases h6 : d == d' <;> simp [h1, h2, h3, h4, h5, h6]

theorem mI_mI (b : Bool) (a : Int) : mI b (mI b a) = mI b a := by cases b <;> rfl
theorem mS_mS (b : Bool) (a : List UInt8) : mS b (mS b a) = mS b a := by cases b <;> rfl

def same (o a b : Int) (c n d : List UInt8) (o' a' b' : Int) (c' n' d' : List UInt8) : Bool :=
  eq6 o (mI (rowB o 1) a) (mI (rowB o 2) b) (mS (rowB o 3) c) (mS (rowB o 4) n) (mS (rowB o 5) d) o' (mI (rowB o' 1) a') (mI (rowB o' 2) b') (mS (rowB o' 3) c') (mS (rowB o' 4) n') (mS (rowB o' 5) d')

theorem ev47 (o a b : Int) (c n d : List UInt8) (o' a' b' : Int) (c' n' d' : List UInt8) :
    ev tab prim 47 [.agg [.int .i64 o, .int .i64 a, .int .i64 b, .str c, .str n, .str d], .agg [.int .i64 o', .int .i64 a', .int .i64 b', .str c', .str n', .str d']] [] =
      some (.bool (same o a b c n d o' a' b' c' n' d'), []) := by
  rw [ev_fn' tab prim (f := 47) rfl _ _ rfl]
  simp [-rSeq, rseq6, ev57, same]

theorem ev44 (o a b : Int) (c n d : List UInt8) : ∃ r, ev tab prim 44 [.agg [.int .i64 o, .int .i64 a, .int .i64 b, .str c, .str n, .str d]] [] = some (.int .i64 r, []) := by
  obtain ⟨r, hr⟩ := ev18 1 [(c.length : Int), (n.length : Int), (d.length : Int)] (by simp) false
  refine ⟨r, ?_⟩
  rw [ev_fn' tab prim (f := 44) rfl _ _ rfl]
  simp only [ints, List.map_cons, List.map_nil] at hr
  simp [hr]

theorem ev11 (o a b : Int) (c n d : List UInt8) (o' a' b' : Int) (c' n' d' : List UInt8) :
    ev tab prim 11 [.agg [.int .i64 o, .int .i64 a, .int .i64 b, .str c, .str n, .str d], .agg [.int .i64 o', .int .i64 a', .int .i64 b', .str c', .str n', .str d']] [] = some (.bool true, []) := by
  obtain ⟨r1, h1⟩ := ev44 o a b c n d
  obtain ⟨r2, h2⟩ := ev44 o' a' b' c' n' d'
  obtain ⟨r, hr⟩ := ev18 r1 [r2] (by simp) false
  simp only [ints, List.map_cons, List.map_nil] at hr
  rw [ev_fn' tab prim (f := 11) rfl _ _ rfl]
  by_cases hb : 500 < r
  · simp [h1, h2, hr, hb, ev41]
  · have h46 := ev46 o
    rw [shapeOf_eq] at h46
    have hp : ∀ z, same o a b c n d o (mI (rowB o 1) a) (mI (rowB o 2) b) (mS (rowB o 3) c) (mS (rowB o 4) n) (mS (rowB o 5) d) = z → z = true := by
      rintro _ rfl; unfold same; rw [mI_mI, mI_mI, mS_mS, mS_mS, mS_mS, eq6_refl]
    have hp' := hp _ rfl
    have hq : same o a b c n d o a b c n d = true := eq6_refl _ _ _ _ _ _
    have hc : same o' a' b' c' n' d' o a b c n d = same o a b c n d o' a' b' c' n' d' := eq6_comm _ _ _ _ _ _ _ _ _ _ _ _
    have hs : eq6 o (mI (rowB o 1) a) (mI (rowB o 2) b) (mS (rowB o 3) c) (mS (rowB o 4) n) (mS (rowB o 5) d) o' (mI (rowB o' 1) a') (mI (rowB o' 2) b') (mS (rowB o' 3) c') (mS (rowB o' 4) n') (mS (rowB o' 5) d') = same o a b c n d o' a' b' c' n' d' := rfl
    cases hi : inR o <;> rw [hi] at h46
    · simp [-rSeq, rseq6, h1, h2, hr, hb, ev41, ev45, ev47, h46, hq, hc, hs]
    · simp [-rSeq, rseq6, h1, h2, hr, hb, ev41, ev45, ev47, h46, hp', hc, hs]

theorem tInt {n : Nat} {x : List V} (h : TyC Try.prog (n + 1) 3 x) : ∃ m, x = [.int .i64 m] := by
  unfold TyC at h; rw [Try.underlying3] at h
  obtain ⟨m, h, _⟩ := h; exact ⟨m, h⟩
theorem tStr {n : Nat} {x : List V} (h : TyC Try.prog (n + 1) 9 x) : ∃ m, x = [.str m] := by
  unfold TyC at h; rw [Try.underlying9] at h
  obtain ⟨m, h, _⟩ := h; exact ⟨m, h⟩

/-- An argument of the type api.Instr. -/
theorem t53_row {xs : List V} (h : TyC Try.prog 6 53 xs) : ∃ o a b c n d, xs = [.int .i64 o, .int .i64 a, .int .i64 b, .str c, .str n, .str d] := by
  unfold TyC at h; rw [Try.underlying53] at h
  obtain ⟨x1, r1, rfl, h1, y1, r2, rfl, h2, y2, r3, rfl, h3, y3, r4, rfl, h4, y4, r5, rfl, h5, y5, r6, rfl, h6, rfl⟩ := h
  obtain ⟨o, rfl⟩ := tInt h1
  obtain ⟨a, rfl⟩ := tInt h2
  obtain ⟨b, rfl⟩ := tInt h3
  obtain ⟨c, rfl⟩ := tStr h4
  obtain ⟨n, rfl⟩ := tStr h5
  obtain ⟨d, rfl⟩ := tStr h6
  exact ⟨o, a, b, c, n, d, rfl⟩

theorem ev11' {xs ys : List V} (hx : TyC Try.prog 6 53 xs) (hy : TyC Try.prog 6 53 ys) : ev tab prim 11 [.agg xs, .agg ys] [] = some (.bool true, []) := by
  obtain ⟨o, a, b, c, n, d, rfl⟩ := t53_row hx
  obtain ⟨o', a', b', c', n', d', rfl⟩ := t53_row hy
  exact ev11 o a b c n d o' a' b' c' n' d'

end Go.Proofs.Ytgggjclhadlncaa.Ev
