/- The law of counts. -/
import Derived.Test.YtgggjclhadlncaaFv
import Derived.Test.YtgggjclhadlncaaFe
namespace Go.Proofs.Ytgggjclhadlncaa.Ev
open Go

theorem whole_more {r : List UInt8} (h : r = [86] ∨ Whole r) : typeOk (r ++ [73]) = false := by
  rcases h with rfl | h
  · decide
  · have h1 := h.2 [73]
    unfold typeOk
    rw [h1]
    simp

set_option maxHeartbeats 8000000 in
theorem ev3 (l : List Int) (res : Int) : ev tab prim 3 [.list 1 (ints l) false, .int .i64 res] [] = some (.bool true, []) := by
  rw [ev_fn' tab prim (f := 3) rfl _ _ rfl]
  have hil : (ints l).length = l.length := by simp [ints]
  by_cases g : 12 < l.length
  · have g' : (12 : Int) < (l.length : Int) := by omega
    simp [hil, g', ev12]
  have g' : ¬ (12 : Int) < (l.length : Int) := by omega
  obtain ⟨us, u1, u2, u3⟩ := cLoop l res (by omega) l.length 0 [] (by omega) rfl (by simp)
  have hr := round_in res 6 (by omega)
  have h13 := ev13 res 6 (by omega) (by omega)
  obtain ⟨rv, r1, r2, r3⟩ := res_at hr.1 hr.2
  have hO : strs ofs = [.str [73], .str [67], .str [76, 65, 59], .str [91, 73], .str [91, 91, 76, 66, 99, 95, 49, 59]] := rfl
  have hf := flat_len us fun t ht => (u2 t ht).2
  have hw : ∀ t ∈ us, Whole t := fun t ht => (u2 t ht).1
  have hul : (strs us).length = l.length := by simp [strs, u1]
  have h41 : fr 0 (41 :: rv) = 0 := by simp [fr, body]
  have h41' : fr 0 (41 :: (rv ++ [73])) = 0 := by simp [fr, body]
  have n : (us.flatten.length ≤ 96) := by omega
  have mA := ev14 (40 :: (us.flatten ++ 41 :: rv)) (by simp only [List.length_cons, List.length_append, List.length_nil]; omega)
  have mB := ev14 (40 :: (us.flatten ++ rv)) (by simp only [List.length_cons, List.length_append, List.length_nil]; omega)
  have mC := ev14 (40 :: (us.flatten ++ 41 :: (rv ++ [73]))) (by simp only [List.length_cons, List.length_append, List.length_nil]; omega)
  have h15 := ev15 us (by omega) false false
  have eC : methV (40 :: (us.flatten ++ 41 :: (rv ++ [73]))) = .tup [.list 1 [] false, .str [], .int .i64 6] := by
    refine meth_bad us _ hw h41' (.inl ?_)
    have hne : (rv ++ [73] == [86]) = false := by
      cases rv with
      | nil => rfl
      | cons a t => cases t <;> simp
    simp [tailOk, cut, hne, whole_more r2]
  have eB : methV (40 :: (us.flatten ++ rv)) = .tup [.list 1 [] false, .str [], .int .i64 6] := by
    rcases r2 with rfl | r2
    · exact meth_bad us _ hw (by decide) (.inl (by decide))
    · have h := meth_bad (us ++ [rv]) [] (by
        intro t ht
        rcases List.mem_append.1 ht with ht | ht
        · exact hw t ht
        · rw [List.mem_singleton.1 ht]; exact r2) (by decide) (.inl (by decide))
      simpa using h
  rw [eB] at mB
  rw [eC] at mC
  rw [hO] at u3 r1
  have hs0 : strs [] = [] := rfl
  simp only [cSt, List.flatten_nil, hs0, Int.natCast_zero] at u3
  obtain ⟨hlt, r1⟩ := List.getElem?_eq_some_iff.1 r1
  have b1 : us.flatten.length + 1 + 1 ≤ 9223372036854775807 := by omega
  have b2 : us.flatten.length + 1 + 1 + rv.length ≤ 9223372036854775807 := by omega
  have b3 : us.flatten.length + 1 + rv.length ≤ 9223372036854775807 := by omega
  have b4 : us.flatten.length + (rv.length + 1) + 1 + 1 ≤ 9223372036854775807 := by omega
  have b5 : us.flatten.length + 1 + 1 + rv.length + 1 ≤ 9223372036854775807 := by omega
  by_cases g8 : 8 < l.length
  · have g8' : (8 : Int) < (l.length : Int) := by omega
    have eA : methV (40 :: (us.flatten ++ 41 :: rv)) = .tup [.list 1 [] false, .str [], .int .i64 6] := meth_bad us _ hw h41 (.inr (by omega))
    rw [eA] at mA
    generalize us.flatten = F at *
    generalize round res 6 = r at *
    simp [hil, g', u3, h13, hr.1, hr.2, r1, b1, b2, b3, b4, b5, mA, mB, mC, g8', ev12, idxOk]
  · have g8' : ¬ (8 : Int) < (l.length : Int) := by omega
    have eA := meth_row us rv hw r2 (by omega)
    rw [eA] at mA
    generalize us.flatten = F at *
    generalize round res 6 = r at *
    generalize strs us = W at *
    simp [hil, g', u3, h13, hr.1, hr.2, r1, b1, b2, b3, b4, b5, mA, mB, mC, g8', ev12, idxOk, h15]

/-- An argument of the type []int. -/
theorem t22_row {xs : List V} (h : TyC Try.prog 6 22 xs) : ∃ l, xs = [.list 1 (ints l) false] := by
  unfold TyC at h; rw [Try.underlying22] at h
  obtain ⟨ys, rfl, hlen, hy⟩ := h
  have hc : Try.prog.cellsOf 3 = 1 := by kernel_rfl
  rw [hc]
  have : ∃ l, ys = ints l := by
    clear hc hlen
    induction ys with
    | nil => exact ⟨[], rfl⟩
    | cons y ys ih =>
      obtain ⟨l, rfl⟩ := ih fun z hz => hy z (List.mem_cons_of_mem _ hz)
      obtain ⟨cs, h1, h2⟩ := hy y (List.mem_cons_self ..)
      rw [Try.underlying3] at h2
      obtain ⟨m, hm⟩ := tInt h1
      have h2' : cs = [y] := h2
      rw [hm] at h2'
      injection h2' with h3
      exact ⟨m :: l, by rw [← h3]; rfl⟩
  obtain ⟨l, rfl⟩ := this
  exact ⟨l, rfl⟩

end Go.Proofs.Ytgggjclhadlncaa.Ev
