/- The law of limits. -/
import Derived.Test.YtgggjclhadlncaaFf
namespace Go.Proofs.Ytgggjclhadlncaa.Ev
open Go

set_option maxHeartbeats 4000000 in
theorem lim1 (a len loc : Int) (g1 : ¬ len < 0) (g2 : ¬ 1000 < len) (g3 : ¬ loc < 0) (g4 : ¬ 1000 < loc) : ev tab prim 9 [.int .i64 1, .int .i64 a, .int .i64 len, .int .i64 loc] [] = some (.bool true, []) := by
  have hr : rowB 1 1 = false := by kernel_rfl
  have hk := ev42 1 a len loc (by kernel_rfl) (by kernel_rfl) (named_bare (o := 1) (by simp [bares]) a)
  rw [ev_fn' tab prim (f := 9) rfl _ _ rfl]
  have hc : chk 1 a len loc = 0 := by unfold chk; simp [hr]; try omega
  by_cases l1 : a < -2147483648
  · simp [g1, g2, g3, g4, hk, hc, ev41, l1]
  · by_cases l2 : 2147483648 ≤ a
    · simp [g1, g2, g3, g4, hk, hc, ev41, l1, l2]
    · simp [g1, g2, g3, g4, hk, hc, ev41, l1, l2]

set_option maxHeartbeats 4000000 in
theorem lim2 (a len loc : Int) (g1 : ¬ len < 0) (g2 : ¬ 1000 < len) (g3 : ¬ loc < 0) (g4 : ¬ 1000 < loc) : ev tab prim 9 [.int .i64 2, .int .i64 a, .int .i64 len, .int .i64 loc] [] = some (.bool true, []) := by
  have hr : rowB 2 1 = true := by kernel_rfl
  have hk := ev42 2 a len loc (by kernel_rfl) (by kernel_rfl) (named_bare (o := 2) (by simp [bares]) a)
  rw [ev_fn' tab prim (f := 9) rfl _ _ rfl]
  by_cases l1 : a < -2147483648
  · have hc : chk 2 a len loc = 5 := by unfold chk; simp [hr]; try omega
    simp [g1, g2, g3, g4, hk, hc, ev41, l1]
  · by_cases l2 : 2147483648 ≤ a
    · have hc : chk 2 a len loc = 5 := by unfold chk; simp [hr]; try omega
      simp [g1, g2, g3, g4, hk, hc, ev41, l1, l2]
    · have hc : chk 2 a len loc = 0 := by unfold chk; simp [hr]; try omega
      simp [g1, g2, g3, g4, hk, hc, ev41, l1, l2]

set_option maxHeartbeats 4000000 in
theorem lim4 (a len loc : Int) (g1 : ¬ len < 0) (g2 : ¬ 1000 < len) (g3 : ¬ loc < 0) (g4 : ¬ 1000 < loc) : ev tab prim 9 [.int .i64 4, .int .i64 a, .int .i64 len, .int .i64 loc] [] = some (.bool true, []) := by
  have hr : rowB 4 1 = false := by kernel_rfl
  have hk := ev42 4 a len loc (by kernel_rfl) (by kernel_rfl) (named_bare (o := 4) (by simp [bares]) a)
  rw [ev_fn' tab prim (f := 9) rfl _ _ rfl]
  have hc : chk 4 a len loc = 0 := by unfold chk; simp [hr]; try omega
  by_cases l1 : a < -2147483648
  · simp [g1, g2, g3, g4, hk, hc, ev41, l1]
  · by_cases l2 : 2147483648 ≤ a
    · simp [g1, g2, g3, g4, hk, hc, ev41, l1, l2]
    · simp [g1, g2, g3, g4, hk, hc, ev41, l1, l2]

set_option maxHeartbeats 4000000 in
theorem lim5 (a len loc : Int) (g1 : ¬ len < 0) (g2 : ¬ 1000 < len) (g3 : ¬ loc < 0) (g4 : ¬ 1000 < loc) : ev tab prim 9 [.int .i64 5, .int .i64 a, .int .i64 len, .int .i64 loc] [] = some (.bool true, []) := by
  have hr : rowB 5 1 = true := by kernel_rfl
  have hk := ev42 5 a len loc (by kernel_rfl) (by kernel_rfl) (named_bare (o := 5) (by simp [bares]) a)
  rw [ev_fn' tab prim (f := 9) rfl _ _ rfl]
  by_cases l1 : a < -2147483648
  · have hc : chk 5 a len loc = 5 := by unfold chk; simp [hr]; try omega
    simp [g1, g2, g3, g4, hk, hc, ev41, l1]
  · by_cases l2 : 2147483648 ≤ a
    · have hc : chk 5 a len loc = 5 := by unfold chk; simp [hr]; try omega
      simp [g1, g2, g3, g4, hk, hc, ev41, l1, l2]
    · by_cases l3 : a < 0
      · have hc : chk 5 a len loc = 4 := by unfold chk; simp [hr]; try omega
        simp [g1, g2, g3, g4, hk, hc, ev41, l1, l2, l3]
      · by_cases l4 : loc ≤ a
        · have hc : chk 5 a len loc = 4 := by unfold chk; simp [hr]; try omega
          simp [g1, g2, g3, g4, hk, hc, ev41, l1, l2, l3, l4]
        · have hc : chk 5 a len loc = 0 := by unfold chk; simp [hr]; try omega
          simp [g1, g2, g3, g4, hk, hc, ev41, l1, l2, l3, l4]

set_option maxHeartbeats 4000000 in
theorem lim6 (a len loc : Int) (g1 : ¬ len < 0) (g2 : ¬ 1000 < len) (g3 : ¬ loc < 0) (g4 : ¬ 1000 < loc) : ev tab prim 9 [.int .i64 6, .int .i64 a, .int .i64 len, .int .i64 loc] [] = some (.bool true, []) := by
  have hr : rowB 6 1 = true := by kernel_rfl
  have hk := ev42 6 a len loc (by kernel_rfl) (by kernel_rfl) (named_bare (o := 6) (by simp [bares]) a)
  rw [ev_fn' tab prim (f := 9) rfl _ _ rfl]
  by_cases l1 : a < -2147483648
  · have hc : chk 6 a len loc = 5 := by unfold chk; simp [hr]; try omega
    simp [g1, g2, g3, g4, hk, hc, ev41, l1]
  · by_cases l2 : 2147483648 ≤ a
    · have hc : chk 6 a len loc = 5 := by unfold chk; simp [hr]; try omega
      simp [g1, g2, g3, g4, hk, hc, ev41, l1, l2]
    · by_cases l3 : a < 0
      · have hc : chk 6 a len loc = 4 := by unfold chk; simp [hr]; try omega
        simp [g1, g2, g3, g4, hk, hc, ev41, l1, l2, l3]
      · by_cases l4 : loc ≤ a
        · have hc : chk 6 a len loc = 4 := by unfold chk; simp [hr]; try omega
          simp [g1, g2, g3, g4, hk, hc, ev41, l1, l2, l3, l4]
        · have hc : chk 6 a len loc = 0 := by unfold chk; simp [hr]; try omega
          simp [g1, g2, g3, g4, hk, hc, ev41, l1, l2, l3, l4]

set_option maxHeartbeats 4000000 in
theorem lim7 (a len loc : Int) (g1 : ¬ len < 0) (g2 : ¬ 1000 < len) (g3 : ¬ loc < 0) (g4 : ¬ 1000 < loc) : ev tab prim 9 [.int .i64 7, .int .i64 a, .int .i64 len, .int .i64 loc] [] = some (.bool true, []) := by
  have hr : rowB 7 1 = false := by kernel_rfl
  have hk := ev42 7 a len loc (by kernel_rfl) (by kernel_rfl) (named_bare (o := 7) (by simp [bares]) a)
  rw [ev_fn' tab prim (f := 9) rfl _ _ rfl]
  have hc : chk 7 a len loc = 0 := by unfold chk; simp [hr]; try omega
  by_cases l1 : a < -2147483648
  · simp [g1, g2, g3, g4, hk, hc, ev41, l1]
  · by_cases l2 : 2147483648 ≤ a
    · simp [g1, g2, g3, g4, hk, hc, ev41, l1, l2]
    · simp [g1, g2, g3, g4, hk, hc, ev41, l1, l2]

set_option maxHeartbeats 4000000 in
theorem lim8 (a len loc : Int) (g1 : ¬ len < 0) (g2 : ¬ 1000 < len) (g3 : ¬ loc < 0) (g4 : ¬ 1000 < loc) : ev tab prim 9 [.int .i64 8, .int .i64 a, .int .i64 len, .int .i64 loc] [] = some (.bool true, []) := by
  have hr : rowB 8 1 = false := by kernel_rfl
  have hk := ev42 8 a len loc (by kernel_rfl) (by kernel_rfl) (named_bare (o := 8) (by simp [bares]) a)
  rw [ev_fn' tab prim (f := 9) rfl _ _ rfl]
  have hc : chk 8 a len loc = 0 := by unfold chk; simp [hr]; try omega
  by_cases l1 : a < -2147483648
  · simp [g1, g2, g3, g4, hk, hc, ev41, l1]
  · by_cases l2 : 2147483648 ≤ a
    · simp [g1, g2, g3, g4, hk, hc, ev41, l1, l2]
    · simp [g1, g2, g3, g4, hk, hc, ev41, l1, l2]

set_option maxHeartbeats 4000000 in
theorem lim17 (a len loc : Int) (g1 : ¬ len < 0) (g2 : ¬ 1000 < len) (g3 : ¬ loc < 0) (g4 : ¬ 1000 < loc) : ev tab prim 9 [.int .i64 17, .int .i64 a, .int .i64 len, .int .i64 loc] [] = some (.bool true, []) := by
  have hr : rowB 17 1 = true := by kernel_rfl
  have hk := ev42 17 a len loc (by kernel_rfl) (by kernel_rfl) (named_bare (o := 17) (by simp [bares]) a)
  rw [ev_fn' tab prim (f := 9) rfl _ _ rfl]
  by_cases l1 : a < -2147483648
  · have hc : chk 17 a len loc = 5 := by unfold chk; simp [hr]; try omega
    simp [g1, g2, g3, g4, hk, hc, ev41, l1]
  · by_cases l2 : 2147483648 ≤ a
    · have hc : chk 17 a len loc = 5 := by unfold chk; simp [hr]; try omega
      simp [g1, g2, g3, g4, hk, hc, ev41, l1, l2]
    · by_cases l3 : a < 0
      · have hc : chk 17 a len loc = 4 := by unfold chk; simp [hr]; try omega
        simp [g1, g2, g3, g4, hk, hc, ev41, l1, l2, l3]
      · by_cases l4 : len ≤ a
        · have hc : chk 17 a len loc = 4 := by unfold chk; simp [hr]; try omega
          simp [g1, g2, g3, g4, hk, hc, ev41, l1, l2, l3, l4]
        · have hc : chk 17 a len loc = 0 := by unfold chk; simp [hr]; try omega
          simp [g1, g2, g3, g4, hk, hc, ev41, l1, l2, l3, l4]

set_option maxHeartbeats 4000000 in
theorem lim18 (a len loc : Int) (g1 : ¬ len < 0) (g2 : ¬ 1000 < len) (g3 : ¬ loc < 0) (g4 : ¬ 1000 < loc) : ev tab prim 9 [.int .i64 18, .int .i64 a, .int .i64 len, .int .i64 loc] [] = some (.bool true, []) := by
  have hr : rowB 18 1 = true := by kernel_rfl
  have hk := ev42 18 a len loc (by kernel_rfl) (by kernel_rfl) (named_bare (o := 18) (by simp [bares]) a)
  rw [ev_fn' tab prim (f := 9) rfl _ _ rfl]
  by_cases l1 : a < -2147483648
  · have hc : chk 18 a len loc = 5 := by unfold chk; simp [hr]; try omega
    simp [g1, g2, g3, g4, hk, hc, ev41, l1]
  · by_cases l2 : 2147483648 ≤ a
    · have hc : chk 18 a len loc = 5 := by unfold chk; simp [hr]; try omega
      simp [g1, g2, g3, g4, hk, hc, ev41, l1, l2]
    · by_cases l3 : a < 0
      · have hc : chk 18 a len loc = 4 := by unfold chk; simp [hr]; try omega
        simp [g1, g2, g3, g4, hk, hc, ev41, l1, l2, l3]
      · by_cases l4 : len ≤ a
        · have hc : chk 18 a len loc = 4 := by unfold chk; simp [hr]; try omega
          simp [g1, g2, g3, g4, hk, hc, ev41, l1, l2, l3, l4]
        · have hc : chk 18 a len loc = 0 := by unfold chk; simp [hr]; try omega
          simp [g1, g2, g3, g4, hk, hc, ev41, l1, l2, l3, l4]

set_option maxHeartbeats 4000000 in
theorem lim19 (a len loc : Int) (g1 : ¬ len < 0) (g2 : ¬ 1000 < len) (g3 : ¬ loc < 0) (g4 : ¬ 1000 < loc) : ev tab prim 9 [.int .i64 19, .int .i64 a, .int .i64 len, .int .i64 loc] [] = some (.bool true, []) := by
  have hr : rowB 19 1 = true := by kernel_rfl
  have hk := ev42 19 a len loc (by kernel_rfl) (by kernel_rfl) (named_bare (o := 19) (by simp [bares]) a)
  rw [ev_fn' tab prim (f := 9) rfl _ _ rfl]
  by_cases l1 : a < -2147483648
  · have hc : chk 19 a len loc = 5 := by unfold chk; simp [hr]; try omega
    simp [g1, g2, g3, g4, hk, hc, ev41, l1]
  · by_cases l2 : 2147483648 ≤ a
    · have hc : chk 19 a len loc = 5 := by unfold chk; simp [hr]; try omega
      simp [g1, g2, g3, g4, hk, hc, ev41, l1, l2]
    · by_cases l3 : a < 0
      · have hc : chk 19 a len loc = 4 := by unfold chk; simp [hr]; try omega
        simp [g1, g2, g3, g4, hk, hc, ev41, l1, l2, l3]
      · by_cases l4 : len ≤ a
        · have hc : chk 19 a len loc = 4 := by unfold chk; simp [hr]; try omega
          simp [g1, g2, g3, g4, hk, hc, ev41, l1, l2, l3, l4]
        · have hc : chk 19 a len loc = 0 := by unfold chk; simp [hr]; try omega
          simp [g1, g2, g3, g4, hk, hc, ev41, l1, l2, l3, l4]

set_option maxHeartbeats 4000000 in
theorem lim20 (a len loc : Int) (g1 : ¬ len < 0) (g2 : ¬ 1000 < len) (g3 : ¬ loc < 0) (g4 : ¬ 1000 < loc) : ev tab prim 9 [.int .i64 20, .int .i64 a, .int .i64 len, .int .i64 loc] [] = some (.bool true, []) := by
  have hr : rowB 20 1 = true := by kernel_rfl
  have hk := ev42 20 a len loc (by kernel_rfl) (by kernel_rfl) (named_bare (o := 20) (by simp [bares]) a)
  rw [ev_fn' tab prim (f := 9) rfl _ _ rfl]
  by_cases l1 : a < -2147483648
  · have hc : chk 20 a len loc = 5 := by unfold chk; simp [hr]; try omega
    simp [g1, g2, g3, g4, hk, hc, ev41, l1]
  · by_cases l2 : 2147483648 ≤ a
    · have hc : chk 20 a len loc = 5 := by unfold chk; simp [hr]; try omega
      simp [g1, g2, g3, g4, hk, hc, ev41, l1, l2]
    · by_cases l3 : a < 0
      · have hc : chk 20 a len loc = 4 := by unfold chk; simp [hr]; try omega
        simp [g1, g2, g3, g4, hk, hc, ev41, l1, l2, l3]
      · by_cases l4 : len ≤ a
        · have hc : chk 20 a len loc = 4 := by unfold chk; simp [hr]; try omega
          simp [g1, g2, g3, g4, hk, hc, ev41, l1, l2, l3, l4]
        · have hc : chk 20 a len loc = 0 := by unfold chk; simp [hr]; try omega
          simp [g1, g2, g3, g4, hk, hc, ev41, l1, l2, l3, l4]

set_option maxHeartbeats 4000000 in
theorem lim36 (a len loc : Int) (g1 : ¬ len < 0) (g2 : ¬ 1000 < len) (g3 : ¬ loc < 0) (g4 : ¬ 1000 < loc) : ev tab prim 9 [.int .i64 36, .int .i64 a, .int .i64 len, .int .i64 loc] [] = some (.bool true, []) := by
  have hr : rowB 36 1 = false := by kernel_rfl
  have hk := ev42 36 a len loc (by kernel_rfl) (by kernel_rfl) (named_bare (o := 36) (by simp [bares]) a)
  rw [ev_fn' tab prim (f := 9) rfl _ _ rfl]
  have hc : chk 36 a len loc = 0 := by unfold chk; simp [hr]; try omega
  by_cases l1 : a < -2147483648
  · simp [g1, g2, g3, g4, hk, hc, ev41, l1]
  · by_cases l2 : 2147483648 ≤ a
    · simp [g1, g2, g3, g4, hk, hc, ev41, l1, l2]
    · simp [g1, g2, g3, g4, hk, hc, ev41, l1, l2]

set_option maxHeartbeats 4000000 in
theorem lim38 (a len loc : Int) (g1 : ¬ len < 0) (g2 : ¬ 1000 < len) (g3 : ¬ loc < 0) (g4 : ¬ 1000 < loc) : ev tab prim 9 [.int .i64 38, .int .i64 a, .int .i64 len, .int .i64 loc] [] = some (.bool true, []) := by
  have hr : rowB 38 1 = false := by kernel_rfl
  have hk := ev42 38 a len loc (by kernel_rfl) (by kernel_rfl) (named_bare (o := 38) (by simp [bares]) a)
  rw [ev_fn' tab prim (f := 9) rfl _ _ rfl]
  have hc : chk 38 a len loc = 0 := by unfold chk; simp [hr]; try omega
  by_cases l1 : a < -2147483648
  · simp [g1, g2, g3, g4, hk, hc, ev41, l1]
  · by_cases l2 : 2147483648 ≤ a
    · simp [g1, g2, g3, g4, hk, hc, ev41, l1, l2]
    · simp [g1, g2, g3, g4, hk, hc, ev41, l1, l2]

set_option maxHeartbeats 4000000 in
theorem limElse (o a len loc : Int) (g1 : ¬ len < 0) (g2 : ¬ 1000 < len) (g3 : ¬ loc < 0) (g4 : ¬ 1000 < loc) (ho : (o == 1) = false ∧ (o == 2) = false ∧ (o == 4) = false ∧ (o == 5) = false ∧ (o == 6) = false ∧ (o == 7) = false ∧ (o == 8) = false ∧ (o == 17) = false ∧ (o == 18) = false ∧ (o == 19) = false ∧ (o == 20) = false ∧ (o == 36) = false ∧ (o == 38) = false) : ev tab prim 9 [.int .i64 o, .int .i64 a, .int .i64 len, .int .i64 loc] [] = some (.bool true, []) := by
  obtain ⟨e1, e2, e4, e5, e6, e7, e8, e17, e18, e19, e20, e36, e38⟩ := ho
  rw [ev_fn' tab prim (f := 9) rfl _ _ rfl]
  by_cases l1 : a < -2147483648
  · simp [g1, g2, g3, g4, ev41, e1, e2, e4, e5, e6, e7, e8, e17, e18, e19, e20, e36, e38, l1]
  · by_cases l2 : 2147483648 ≤ a
    · simp [g1, g2, g3, g4, ev41, e1, e2, e4, e5, e6, e7, e8, e17, e18, e19, e20, e36, e38, l1, l2]
    · simp [g1, g2, g3, g4, ev41, e1, e2, e4, e5, e6, e7, e8, e17, e18, e19, e20, e36, e38, l1, l2]

theorem ev9 (o a len loc : Int) : ev tab prim 9 [.int .i64 o, .int .i64 a, .int .i64 len, .int .i64 loc] [] = some (.bool true, []) := by
  by_cases g1 : len < 0
  · rw [ev_fn' tab prim (f := 9) rfl _ _ rfl]; simp [g1, ev41]
  by_cases g2 : 1000 < len
  · rw [ev_fn' tab prim (f := 9) rfl _ _ rfl]; simp [g1, g2, ev41]
  by_cases g3 : loc < 0
  · rw [ev_fn' tab prim (f := 9) rfl _ _ rfl]; simp [g1, g2, g3, ev41]
  by_cases g4 : 1000 < loc
  · rw [ev_fn' tab prim (f := 9) rfl _ _ rfl]; simp [g1, g2, g3, g4, ev41]
  by_cases e1 : o = 1
  · subst e1; exact lim1 a len loc g1 g2 g3 g4
  by_cases e2 : o = 2
  · subst e2; exact lim2 a len loc g1 g2 g3 g4
  by_cases e4 : o = 4
  · subst e4; exact lim4 a len loc g1 g2 g3 g4
  by_cases e5 : o = 5
  · subst e5; exact lim5 a len loc g1 g2 g3 g4
  by_cases e6 : o = 6
  · subst e6; exact lim6 a len loc g1 g2 g3 g4
  by_cases e7 : o = 7
  · subst e7; exact lim7 a len loc g1 g2 g3 g4
  by_cases e8 : o = 8
  · subst e8; exact lim8 a len loc g1 g2 g3 g4
  by_cases e17 : o = 17
  · subst e17; exact lim17 a len loc g1 g2 g3 g4
  by_cases e18 : o = 18
  · subst e18; exact lim18 a len loc g1 g2 g3 g4
  by_cases e19 : o = 19
  · subst e19; exact lim19 a len loc g1 g2 g3 g4
  by_cases e20 : o = 20
  · subst e20; exact lim20 a len loc g1 g2 g3 g4
  by_cases e36 : o = 36
  · subst e36; exact lim36 a len loc g1 g2 g3 g4
  by_cases e38 : o = 38
  · subst e38; exact lim38 a len loc g1 g2 g3 g4
  exact limElse o a len loc g1 g2 g3 g4 (by simp [e1, e2, e4, e5, e6, e7, e8, e17, e18, e19, e20, e36, e38])

end Go.Proofs.Ytgggjclhadlncaa.Ev
