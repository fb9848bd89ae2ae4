/- What may be: a check of an instruction without texts. -/
import Derived.Test.YtgmlanhhjmhmmaaGreatFa
namespace Go.Proofs.YtgmlanhhjmhmmaaGreat.Ev
open Go

theorem ev100 (n lo hi : Int) : ev tab prim 100 [.int .i64 n, .int .i64 lo, .int .i64 hi] [[], []] = some (.bool (decide (lo ≤ n) && decide (n ≤ hi)), [[], []]) := by
  rw [ev_fn' tab prim (f := 100) rfl _ _ rfl]
  by_cases h1 : lo ≤ n <;> simp [h1]

theorem ev102 (n : Int) : ev tab prim 102 [.int .i64 n] [[], []] = some (.bool (decide (17 ≤ n) && decide (n ≤ 20)), [[], []]) := by
  rw [ev_fn' tab prim (f := 102) rfl _ _ rfl]
  by_cases h1 : 17 ≤ n <;> simp [h1]

def bare (o a : Int) : V := .agg [.int .i64 o, .int .i64 a, .int .i64 0, .str [], .str [], .str []]
def bares : List Nat := [1, 2, 4, 5, 6, 7, 8, 17, 18, 19, 20, 36, 38]
theorem named_all : (fun a : Int => bares.map fun o : Nat => evF tab prim 30 101 [bare (o : Int) a] [[], []]) = fun _ : Int => bares.map fun _ : Nat => some (.bool true, [[], []]) := by kernel_rfl
theorem named_bare {o : Nat} (ho : o ∈ bares) (a : Int) : ev tab prim 101 [.agg [.int .i64 (o : Int), .int .i64 a, .int .i64 0, .str [], .str [], .str []]] [[], []] = some (.bool true, [[], []]) :=
  ev_of_fuel 30 (List.map_inj_left.1 (congrFun named_all a) o ho)

/-- What Check says, where there is no name to ask for. -/
def chk (o a len loc : Int) : Int :=
  if rowB o 1 = true ∧ (a < -2147483648 ∨ 2147483647 < a) then 5
  else if ((o = 5 ∨ o = 6) ∧ (a < 0 ∨ loc ≤ a)) ∨ ((17 ≤ o ∧ o ≤ 20) ∧ (a < 0 ∨ len ≤ a)) then 4 else 0

set_option maxHeartbeats 4000000 in
theorem ev86 (o a len loc : Int) (hin : inR o = true) (hb : rowB o 2 = false)
    (hn : ev tab prim 101 [.agg [.int .i64 o, .int .i64 a, .int .i64 0, .str [], .str [], .str []]] [[], []] = some (.bool true, [])) :
    ev tab prim 86 [.agg [.int .i64 o, .int .i64 a, .int .i64 0, .str [], .str [], .str []], .int .i64 len, .int .i64 loc] [[], []] = some (.int .i64 (chk o a len loc), [[], []]) := by
  rw [ev_fn' tab prim (f := 86) rfl _ _ rfl]
  have h40 := ev61 o
  rw [shapeOf_eq, hb, hin] at h40
  have lows : a < -2147483648 ∨ 2147483647 < a ∨ (-2147483648 ≤ a ∧ a ≤ 2147483647) := by omega
  by_cases e5 : o = 5
  · subst e5
    have h1 : rowB 5 1 = true := by kernel_rfl
    rw [h1] at h40
    rcases lows with h | h | ⟨h, h'⟩
    · have g : ¬ -2147483648 ≤ a := by omega
      simp [h40, ev100, g, chk, h1, h]
    · have g : -2147483648 ≤ a := by omega
      have g' : ¬ a ≤ 2147483647 := by omega
      simp [h40, ev100, g, g', chk, h1, h]
    · have g : ¬ a < -2147483648 := by omega
      have g' : ¬ 2147483647 < a := by omega
      by_cases l1 : a < 0
      · simp [h40, ev100, h, h', g, g', chk, h1, hn, l1]
      · by_cases l2 : loc ≤ a
        · simp [h40, ev100, h, h', g, g', chk, h1, hn, l1, l2]
        · simp [h40, ev100, ev102, h, h', g, g', chk, h1, hn, l1, l2]
  · by_cases e6 : o = 6
    · subst e6
      have h1 : rowB 6 1 = true := by kernel_rfl
      rw [h1] at h40
      rcases lows with h | h | ⟨h, h'⟩
      · have g : ¬ -2147483648 ≤ a := by omega
        simp [h40, ev100, g, chk, h1, h]
      · have g : -2147483648 ≤ a := by omega
        have g' : ¬ a ≤ 2147483647 := by omega
        simp [h40, ev100, g, g', chk, h1, h]
      · have g : ¬ a < -2147483648 := by omega
        have g' : ¬ 2147483647 < a := by omega
        by_cases l1 : a < 0
        · simp [h40, ev100, h, h', g, g', chk, h1, hn, l1]
        · by_cases l2 : loc ≤ a
          · simp [h40, ev100, h, h', g, g', chk, h1, hn, l1, l2]
          · simp [h40, ev100, ev102, h, h', g, g', chk, h1, hn, l1, l2]
    · have b5 : (o == 5) = false := by simp [e5]
      have b6 : (o == 6) = false := by simp [e6]
      by_cases j : 17 ≤ o ∧ o ≤ 20
      · obtain ⟨j1, j2⟩ := j
        cases h1 : rowB o 1 <;> rw [h1] at h40
        · by_cases l1 : a < 0
          · simp [h40, ev100, ev102, b5, b6, j1, j2, chk, h1, hn, l1, e5, e6]
          · by_cases l2 : len ≤ a
            · simp [h40, ev100, ev102, b5, b6, j1, j2, chk, h1, hn, l1, l2, e5, e6]
            · simp [h40, ev100, ev102, b5, b6, j1, j2, chk, h1, hn, l1, l2, e5, e6]
        · rcases lows with h | h | ⟨h, h'⟩
          · have g : ¬ -2147483648 ≤ a := by omega
            simp [h40, ev100, b5, b6, g, chk, h1, h]
          · have g : -2147483648 ≤ a := by omega
            have g' : ¬ a ≤ 2147483647 := by omega
            simp [h40, ev100, b5, b6, g, g', chk, h1, h]
          · have g : ¬ a < -2147483648 := by omega
            have g' : ¬ 2147483647 < a := by omega
            by_cases l1 : a < 0
            · simp [h40, ev100, ev102, b5, b6, j1, j2, h, h', g, g', chk, h1, hn, l1, e5, e6]
            · by_cases l2 : len ≤ a
              · simp [h40, ev100, ev102, b5, b6, j1, j2, h, h', g, g', chk, h1, hn, l1, l2, e5, e6]
              · simp [h40, ev100, ev102, b5, b6, j1, j2, h, h', g, g', chk, h1, hn, l1, l2, e5, e6]
      · have hj : (decide (17 ≤ o) && decide (o ≤ 20)) = false := by simp; omega
        have h55 := ev102 o
        rw [hj] at h55
        have hch : ¬ (((o = 5 ∨ o = 6) ∧ (a < 0 ∨ loc ≤ a)) ∨ ((17 ≤ o ∧ o ≤ 20) ∧ (a < 0 ∨ len ≤ a))) := by omega
        cases h1 : rowB o 1 <;> rw [h1] at h40
        · have hc : chk o a len loc = 0 := by unfold chk; rw [h1, if_neg hch]; simp
          simp [h40, ev100, h55, b5, b6, hn, hc]
        · rcases lows with h | h | ⟨h, h'⟩
          · have g : ¬ -2147483648 ≤ a := by omega
            have hc : chk o a len loc = 5 := by unfold chk; rw [if_pos ⟨h1, .inl h⟩]
            simp [h40, ev100, b5, b6, g, hc]
          · have g : -2147483648 ≤ a := by omega
            have g' : ¬ a ≤ 2147483647 := by omega
            have hc : chk o a len loc = 5 := by unfold chk; rw [if_pos ⟨h1, .inr h⟩]
            simp [h40, ev100, b5, b6, g, g', hc]
          · have hc : chk o a len loc = 0 := by unfold chk; rw [if_neg (by omega), if_neg hch]
            simp [h40, ev100, h55, b5, b6, h, h', hn, hc]

end Go.Proofs.YtgmlanhhjmhmmaaGreat.Ev
