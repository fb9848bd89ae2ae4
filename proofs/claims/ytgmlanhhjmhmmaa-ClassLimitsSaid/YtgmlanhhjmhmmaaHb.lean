/- The law of limits. -/
import Derived.Test.YtgmlanhhjmhmmaaHa
import Derived.Test.YtgmlanhhjmhmmaaFu
namespace Go.Proofs.Ytgmlanhhjmhmmaa.Ev
open Go

/-- A row as it was made, or with more behind. -/
def grow (sz : Nat) (xs : List V) (i : Nat) (e : V) : V := if i = 0 then .full sz xs else .list sz (xs ++ List.replicate i e) true
theorem grow_0 (sz : Nat) (xs : List V) (e : V) : grow sz xs 0 e = .full sz xs := rfl
theorem grow_p (sz : Nat) (xs : List V) (i : Nat) (e : V) (h : 0 < i) : grow sz xs i e = .list sz (xs ++ List.replicate i e) true := by
  unfold grow; rw [if_neg (by omega)]
theorem rep_snoc (i : Nat) (e : V) : List.replicate i e ++ [e] = List.replicate (i + 1) e := by rw [List.replicate_succ']

def mC (st lo : Int) (code hs : V) : List V := [.str [109], .str [40, 41, 86], .bool true, .bool false, .int .i64 st, .int .i64 lo, code, hs]
def cC (fs ms : V) : List V := [.str [65], .str OB, .bool false, .bool false, .full 1 [], fs, ms]
def bM (m c : List V) : Mem := [[(5, m), (6, c)], [], []]

theorem lLoop0 (mc : List V) (ms : V) (n : Nat) (hn : n ≤ 220) : cv tab prim (.loop L5_0) { env := [(1, .int .i64 n), (6, .ptr 2 6 0), (8, .int .i64 0)], mem := bM mc (cC (grow 3 [] 0 F0.v) ms) } =
    some (.exit 1, { env := [(1, .int .i64 n), (6, .ptr 2 6 0)], mem := bM mc (cC (grow 3 [] n F0.v) ms) }) := by
  refine loop_all (fun i => { env := [(1, .int .i64 n), (6, .ptr 2 6 0), (8, .int .i64 i)], mem := bM mc (cC (grow 3 [] i F0.v) ms) }) n _ (fun i hi => ?_) ?_ (by simp)
  · have a1 : (i : Int) < (n : Int) := by omega
    have hw := wrap_succ hi (by unfold maxLen; omega)
    rcases Nat.eq_zero_or_pos i with rfl | h0
    · rw [grow_0, grow_p _ _ _ _ (by omega)]
      simp at a1 hw
      simp [L5_0, bM, cC, F0, Fld.v, a1, hw]
    · rw [grow_p _ _ _ _ h0, grow_p _ _ _ _ (by omega)]
      have c1 : (i + 1) * 40 ≤ 140737488355328 := by omega
      have c2 : i + 1 ≤ 140737488355328 := by omega
      have e := rep_snoc i F0.v
      simp [F0, Fld.v] at e
      simp [L5_0, bM, cC, F0, Fld.v, a1, hw, c1, c2, e]
  · simp [L5_0]

def M0v : V := .agg (mC 0 0 (.list 6 [R0.v] false) (.list 4 [] false))

theorem lLoop1 (fs : V) (n : Nat) (hn : n ≤ 220) : cv tab prim (.loop L5_1) { env := [(1, .int .i64 n), (5, .ptr 2 5 0), (6, .ptr 2 6 0), (9, .int .i64 0)], mem := bM (mC 0 0 (.full 6 [R0.v]) (.full 4 [])) (cC fs (grow 8 [] 0 M0v)) } =
    some (.exit 3, { env := [(1, .int .i64 n), (6, .ptr 2 6 0)], mem := bM (mC 0 0 (.full 6 [R0.v]) (.full 4 [])) (cC fs (grow 8 [] n M0v)) }) := by
  refine loop_all (fun i => { env := [(1, .int .i64 n), (5, .ptr 2 5 0), (6, .ptr 2 6 0), (9, .int .i64 i)], mem := bM (mC 0 0 (.full 6 [R0.v]) (.full 4 [])) (cC fs (grow 8 [] i M0v)) }) n _ (fun i hi => ?_) ?_ (by simp)
  · have a1 : (i : Int) < (n : Int) := by omega
    have hw := wrap_succ hi (by unfold maxLen; omega)
    rcases Nat.eq_zero_or_pos i with rfl | h0
    · rw [grow_0, grow_p _ _ _ _ (by omega)]
      simp at a1 hw
      simp [L5_1, bM, cC, mC, M0v, a1, hw]
    · rw [grow_p _ _ _ _ h0, grow_p _ _ _ _ (by omega)]
      have c1 : (i + 1) * 104 ≤ 140737488355328 := by omega
      have c2 : i + 1 ≤ 140737488355328 := by omega
      have e := rep_snoc i M0v
      simp [M0v, mC] at e
      simp [L5_1, bM, cC, mC, M0v, a1, hw, c1, c2, e]
  · simp [L5_1]

theorem lLoop2 (hs : V) (cc : List V) (n : Nat) (h1 : 1 ≤ n) (hn : n ≤ 220) : cv tab prim (.loop L5_2) { env := [(1, .int .i64 n), (5, .ptr 2 5 0), (6, .ptr 2 6 0)], mem := bM (mC 0 0 (grow 6 [R0.v] 0 N0.v) hs) cc } =
    some (.exit 5, { env := [(1, .int .i64 n), (5, .ptr 2 5 0), (6, .ptr 2 6 0)], mem := bM (mC 0 0 (grow 6 [R0.v] (n - 1) N0.v) hs) cc }) := by
  refine loop_all (fun i => { env := [(1, .int .i64 n), (5, .ptr 2 5 0), (6, .ptr 2 6 0)], mem := bM (mC 0 0 (grow 6 [R0.v] i N0.v) hs) cc }) (n - 1) _ (fun i hi => ?_) ?_ (by simp)
  · have a1 : (i : Int) + 1 < (n : Int) := by omega
    rcases Nat.eq_zero_or_pos i with rfl | h0
    · rw [grow_0, grow_p _ _ _ _ (by omega)]
      simp at a1
      simp [L5_2, bM, mC, N0, Ins.v, a1]
    · rw [grow_p _ _ _ _ h0, grow_p _ _ _ _ (by omega)]
      have c1 : (i + 1 + 1) * 72 ≤ 140737488355328 := by omega
      have c2 : i + 1 + 1 ≤ 140737488355328 := by omega
      have e := rep_snoc i N0.v
      simp [N0, Ins.v] at e
      simp [L5_2, bM, mC, N0, Ins.v, a1, c1, c2, e]
  · rcases Nat.eq_zero_or_pos (n - 1) with h0 | h0
    · have e : n = 1 := by omega
      subst e
      simp [L5_2, grow_0, bM, mC]
    · rw [grow_p _ _ _ _ h0]
      have a1 : ¬ ((n - 1 : Nat) : Int) + 1 < (n : Int) := by omega
      simp [L5_2, bM, mC, a1]

theorem lLoop3 (code : V) (cc : List V) (n : Nat) (hn : n ≤ 220) : cv tab prim (.loop L5_3) { env := [(1, .int .i64 n), (5, .ptr 2 5 0), (6, .ptr 2 6 0), (10, .int .i64 0)], mem := bM (mC 0 0 code (grow 4 [] 0 H0.v)) cc } =
    some (.exit 7, { env := [(1, .int .i64 n), (5, .ptr 2 5 0), (6, .ptr 2 6 0)], mem := bM (mC 0 0 code (grow 4 [] n H0.v)) cc }) := by
  refine loop_all (fun i => { env := [(1, .int .i64 n), (5, .ptr 2 5 0), (6, .ptr 2 6 0), (10, .int .i64 i)], mem := bM (mC 0 0 code (grow 4 [] i H0.v)) cc }) n _ (fun i hi => ?_) ?_ (by simp)
  · have a1 : (i : Int) < (n : Int) := by omega
    have hw := wrap_succ hi (by unfold maxLen; omega)
    rcases Nat.eq_zero_or_pos i with rfl | h0
    · rw [grow_0, grow_p _ _ _ _ (by omega)]
      simp at a1 hw
      simp [L5_3, bM, mC, H0, Hnd.v, a1, hw]
    · rw [grow_p _ _ _ _ h0, grow_p _ _ _ _ (by omega)]
      have c1 : (i + 1) * 40 ≤ 140737488355328 := by omega
      have c2 : i + 1 ≤ 140737488355328 := by omega
      have e := rep_snoc i H0.v
      simp [H0, Hnd.v] at e
      simp [L5_3, bM, mC, H0, Hnd.v, a1, hw, c1, c2, e]
  · simp [L5_3]

end Go.Proofs.Ytgmlanhhjmhmmaa.Ev
