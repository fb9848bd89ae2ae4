/- Calls: whether they may be, what they take and lay. -/
import Derived.Test.YtgggjclhadlncaaFr
import Derived.Test.YtgggjclhadlncaaFf
import Derived.Test.YtgggjclhadlncaaFu
namespace Go.Proofs.Ytgggjclhadlncaa.Ev
open Go

theorem ev56 (n : Int) : ev tab prim 56 [.int .i64 n] [] = some (.bool (decide (32 ≤ n) && decide (n ≤ 35)), []) := by
  rw [ev_fn' tab prim (f := 56) rfl _ _ rfl]
  by_cases h1 : 32 ≤ n <;> simp [h1]
theorem ev61 (n : Int) : ev tab prim 61 [.int .i64 n] [] = some (.bool (decide (22 ≤ n) && decide (n ≤ 25)), []) := by
  rw [ev_fn' tab prim (f := 61) rfl _ _ rfl]
  by_cases h1 : 22 ≤ n <;> simp [h1]

def callI (o : Int) (d : List UInt8) : V := .agg [.int .i64 o, .int .i64 0, .int .i64 0, .str [65], .str [109], .str d]

set_option maxHeartbeats 8000000 in
theorem named_call (o : Int) (ho : o = 32 ∨ o = 33 ∨ o = 34 ∨ o = 35) (d : List UInt8) (hd : d.length ≤ 100000) : ev tab prim 54 [callI o d] [] = some (.bool (methOk d), []) := by
  have h14 := ev14 d hd
  obtain ⟨ps, q, hm⟩ := methV_ok d
  rw [hm] at h14
  have hA : ev tab prim 30 [.str [65]] [] = some (.bool true, []) := by rw [ev30 _ (by simp)]; rfl
  have hB : ev tab prim 30 [.str [109]] [] = some (.bool true, []) := by rw [ev30 _ (by simp)]; rfl
  unfold callI
  rw [ev_fn' tab prim (f := 54) rfl _ _ rfl]
  cases h : methOk d <;> rw [h] at h14 <;> rcases ho with rfl | rfl | rfl | rfl <;> simp [h14, hA, hB, ev56, ev61]

set_option maxHeartbeats 8000000 in
theorem check_call (o : Int) (ho : o = 32 ∨ o = 33 ∨ o = 34 ∨ o = 35) (d : List UInt8) (hd : d.length ≤ 100000) :
    ev tab prim 42 [callI o d, .int .i64 1, .int .i64 1] [] = some (.int .i64 (if methOk d = true then 0 else 6), []) := by
  have hn := named_call o ho d hd
  have h40 := ev40 o
  have hs : shapeOf o = [.bool false, .bool false, .bool true, .bool true, .bool true] ∧ inR o = true := by
    rcases ho with rfl | rfl | rfl | rfl <;> exact ⟨by kernel_rfl, by kernel_rfl⟩
  rw [hs.1, hs.2] at h40
  have e5 : (o == 5) = false := by rcases ho with rfl | rfl | rfl | rfl <;> rfl
  have e6 : (o == 6) = false := by rcases ho with rfl | rfl | rfl | rfl <;> rfl
  have h55 := ev55 o
  have hj : (decide (17 ≤ o) && decide (o ≤ 20)) = false := by rcases ho with rfl | rfl | rfl | rfl <;> rfl
  rw [hj] at h55
  unfold callI at hn ⊢
  rw [ev_fn' tab prim (f := 42) rfl _ _ rfl]
  cases h : methOk d <;> rw [h] at hn <;> simp [hn, h40, e5, e6, h55]

set_option maxHeartbeats 8000000 in
theorem effect_call (o : Int) (ho : o = 32 ∨ o = 33 ∨ o = 34 ∨ o = 35) (d : List UInt8) (hd : d.length ≤ 100000) (ps : List (List UInt8)) (q : List UInt8) (hps : ps.length ≤ 100) (hm : methV d = .tup [.list 1 (strs ps) false, .str q, .int .i64 0]) :
    ev tab prim 43 [callI o d] [] = some (.tup [.int .i64 ((if o = 32 then 0 else 1) + ps.length), .int .i64 (if q = [86] then 0 else 1), .int .i64 0], []) := by
  have h14 := ev14 d hd
  rw [hm] at h14
  have h52 := ev52 o
  rw [rowOf_eq] at h52
  have hs : inR o = true ∧ rowI o 6 = (if o = 32 then 0 else 1) := by
    rcases ho with rfl | rfl | rfl | rfl <;> exact ⟨by kernel_rfl, by kernel_rfl⟩
  rw [hs.1, hs.2] at h52
  have h56 := ev56 o
  have hj : (decide (32 ≤ o) && decide (o ≤ 35)) = true := by rcases ho with rfl | rfl | rfl | rfl <;> rfl
  rw [hj] at h56
  have hl : (strs ps).length = ps.length := by simp [strs]
  have hw : IntKind.i64.wrap ((if o = 32 then (0 : Int) else 1) + (ps.length : Int)) = (if o = 32 then (0 : Int) else 1) + (ps.length : Int) := by
    split <;> exact wrap_small (by omega) (by omega)
  unfold callI
  rw [ev_fn' tab prim (f := 43) rfl _ _ rfl]
  generalize (if o = 32 then (0 : Int) else 1) = z at *
  generalize strs ps = W at *
  by_cases hq : q = [86]
  · have e : (q == [86]) = true := by simp [hq]
    simp [h52, h56, h14, ev17, e, hq, hl, hw]
  · have e : (q == [86]) = false := by simp [hq]
    simp [h52, h56, h14, ev17, e, hq, hl, hw]

set_option maxHeartbeats 8000000 in
theorem effect_bad (o : Int) (ho : o = 32 ∨ o = 33 ∨ o = 34 ∨ o = 35) (d : List UInt8) (hd : d.length ≤ 100000) (hm : methV d = .tup [.list 1 [] false, .str [], .int .i64 6]) :
    ev tab prim 43 [callI o d] [] = some (.tup [.int .i64 0, .int .i64 0, .int .i64 6], []) := by
  have h14 := ev14 d hd
  rw [hm] at h14
  have h52 := ev52 o
  rw [rowOf_eq] at h52
  have hs : inR o = true := by rcases ho with rfl | rfl | rfl | rfl <;> kernel_rfl
  rw [hs] at h52
  have h56 := ev56 o
  have hj : (decide (32 ≤ o) && decide (o ≤ 35)) = true := by rcases ho with rfl | rfl | rfl | rfl <;> rfl
  rw [hj] at h56
  unfold callI
  rw [ev_fn' tab prim (f := 43) rfl _ _ rfl]
  simp [h52, h56, h14]

end Go.Proofs.Ytgggjclhadlncaa.Ev
