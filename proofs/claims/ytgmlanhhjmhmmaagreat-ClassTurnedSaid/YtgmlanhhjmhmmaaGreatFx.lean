/- Calls: whether they may be, what they take and lay. -/
import Derived.Test.YtgmlanhhjmhmmaaGreatFr
import Derived.Test.YtgmlanhhjmhmmaaGreatFf
import Derived.Test.YtgmlanhhjmhmmaaGreatFu
namespace Go.Proofs.YtgmlanhhjmhmmaaGreat.Ev
open Go

theorem ev108 (n : Int) : ev tab prim 108 [.int .i64 n] [[], []] = some (.bool (decide (32 ≤ n) && decide (n ≤ 35)), [[], []]) := by
  rw [ev_fn' tab prim (f := 108) rfl _ _ rfl]
  by_cases h1 : 32 ≤ n <;> simp [h1]
theorem ev107 (n : Int) : ev tab prim 107 [.int .i64 n] [[], []] = some (.bool (decide (22 ≤ n) && decide (n ≤ 25)), [[], []]) := by
  rw [ev_fn' tab prim (f := 107) rfl _ _ rfl]
  by_cases h1 : 22 ≤ n <;> simp [h1]

def callI (o : Int) (d : List UInt8) : V := .agg [.int .i64 o, .int .i64 0, .int .i64 0, .str [65], .str [109], .str d]

set_option maxHeartbeats 8000000 in
theorem named_call (o : Int) (ho : o = 32 ∨ o = 33 ∨ o = 34 ∨ o = 35) (d : List UInt8) (hd : d.length ≤ 100000) : ev tab prim 101 [callI o d] [[], []] = some (.bool (methOk d), [[], []]) := by
  have h14 := ev96 d hd
  obtain ⟨ps, q, hm⟩ := methV_ok d
  rw [hm] at h14
  have hA : ev tab prim 52 [.str [65]] [[], []] = some (.bool true, [[], []]) := by rw [ev52 _ (by simp)]; rfl
  have hB : ev tab prim 52 [.str [109]] [[], []] = some (.bool true, [[], []]) := by rw [ev52 _ (by simp)]; rfl
  unfold callI
  rw [ev_fn' tab prim (f := 101) rfl _ _ rfl]
  cases h : methOk d <;> rw [h] at h14 <;> rcases ho with rfl | rfl | rfl | rfl <;> simp [h14, hA, hB, ev108, ev107]

set_option maxHeartbeats 8000000 in
theorem check_call (o : Int) (ho : o = 32 ∨ o = 33 ∨ o = 34 ∨ o = 35) (d : List UInt8) (hd : d.length ≤ 100000) :
    ev tab prim 86 [callI o d, .int .i64 1, .int .i64 1] [[], []] = some (.int .i64 (if methOk d = true then 0 else 6), [[], []]) := by
  have hn := named_call o ho d hd
  have h40 := ev61 o
  have hs : shapeOf o = [.bool false, .bool false, .bool true, .bool true, .bool true] ∧ inR o = true := by
    rcases ho with rfl | rfl | rfl | rfl <;> exact ⟨by kernel_rfl, by kernel_rfl⟩
  rw [hs.1, hs.2] at h40
  have e5 : (o == 5) = false := by rcases ho with rfl | rfl | rfl | rfl <;> rfl
  have e6 : (o == 6) = false := by rcases ho with rfl | rfl | rfl | rfl <;> rfl
  have h55 := ev102 o
  have hj : (decide (17 ≤ o) && decide (o ≤ 20)) = false := by rcases ho with rfl | rfl | rfl | rfl <;> rfl
  rw [hj] at h55
  unfold callI at hn ⊢
  rw [ev_fn' tab prim (f := 86) rfl _ _ rfl]
  cases h : methOk d <;> rw [h] at hn <;> simp [hn, h40, e5, e6, h55]

end Go.Proofs.YtgmlanhhjmhmmaaGreat.Ev
