/- What is told of a text. -/
import Derived.Test.YtgmlanhhjmhmmaaGreatFk
namespace Go.Proofs.YtgmlanhhjmhmmaaGreat.Ev
open Go

def typeOk (s : List UInt8) : Bool := !s.isEmpty && decide (fr 0 s = s.length)

theorem ne_nil (s : List UInt8) : (s == ([] : List UInt8)) = s.isEmpty := by cases s <;> rfl

theorem ev19 (s : List UInt8) (hs : s.length ≤ 100000) : ev tab prim 19 [.str s] [[], []] = some (.bool (typeOk s), [[], []]) := by
  rw [ev_fn' tab prim (f := 19) rfl _ _ rfl]
  have h := ev47 s hs
  have e : ((fr 0 s : Int) == (s.length : Int)) = decide (fr 0 s = s.length) := by rw [ieq, Bool.eq_iff_iff]; simp; omega
  unfold typeOk
  cases he : s.isEmpty
  · simp [h, he, e]
  · simp [he]

theorem ev55 (s : List UInt8) (hs : s.length ≤ 100000) : ev tab prim 55 [.str s] [[], []] = some (.bool (typeOk s), [[], []]) := by
  rw [ev_fn' tab prim (f := 55) rfl _ _ rfl]
  have h := ev82 s hs
  have hl := fr_le 0 s
  unfold nextV at h
  unfold typeOk
  by_cases hf : fr 0 s = 0
  · rw [if_pos hf] at h
    have : (!s.isEmpty && decide (fr 0 s = s.length)) = false := by
      rw [hf]; cases s <;> simp
    rw [this]
    simp [h]
  · rw [if_neg hf] at h
    have he : s.isEmpty = false := by cases s with | nil => simp [fr] at hf | cons => rfl
    have ht : (s.take (fr 0 s)).isEmpty = false := by
      cases s with
      | nil => simp [fr] at hf
      | cons c r => cases hh : fr 0 (c :: r) with
        | zero => exact absurd hh hf
        | succ n => rfl
    have hd : (s.drop (fr 0 s)).isEmpty = decide (fr 0 s = s.length) := by
      rw [Bool.eq_iff_iff]; simp [List.isEmpty_iff, List.drop_eq_nil_iff]; omega
    rw [he]
    generalize s.take (fr 0 s) = t at h ht
    generalize s.drop (fr 0 s) = r at h hd
    simp [h, ht, hd]

def refOk (s : List UInt8) : Bool := typeOk s && (!(s == [73]) && !(s == [67]))
theorem ev110 (s : List UInt8) (hs : s.length ≤ 100000) : ev tab prim 110 [.str s] [[], []] = some (.bool (refOk s), [[], []]) := by
  rw [ev_fn' tab prim (f := 110) rfl _ _ rfl]
  have h := ev55 s hs
  unfold refOk
  cases ht : typeOk s <;> rw [ht] at h
  · simp [h]
  · cases h1 : s == [73]
    · simp [h, h1]
    · simp [h, h1]
theorem ev79 (s : List UInt8) (hs : s.length ≤ 100000) : ev tab prim 79 [.str s] [[], []] = some (.bool (refOk s), [[], []]) := by
  rw [ev_fn' tab prim (f := 79) rfl _ _ rfl]
  have h := ev19 s hs
  unfold refOk
  cases ht : typeOk s <;> rw [ht] at h
  · simp [h]
  · cases h1 : s == [73]
    · simp [h, h1]
    · simp [h, h1]

def mnameOk (s : List UInt8) : Bool := s == [60, 105, 110, 105, 116, 62] || (s == [60, 99, 108, 105, 110, 105, 116, 62] || nameOk s)
theorem ev97 (s : List UInt8) (hs : s.length ≤ 100000) : ev tab prim 97 [.str s] [[], []] = some (.bool (mnameOk s), [[], []]) := by
  rw [ev_fn' tab prim (f := 97) rfl _ _ rfl]
  have h := ev52 s (by omega)
  unfold mnameOk
  cases h1 : s == [60, 105, 110, 105, 116, 62]
  · cases h2 : s == [60, 99, 108, 105, 110, 105, 116, 62]
    · simp [h, h1, h2]
    · simp [h1, h2]
  · simp [h1]
theorem ev49 (s : List UInt8) (hs : s.length ≤ 100000) : ev tab prim 49 [.str s] [[], []] = some (.bool (mnameOk s), [[], []]) := by
  rw [ev_fn' tab prim (f := 49) rfl _ _ rfl]
  have h := ev18 s (by omega)
  unfold mnameOk
  cases h1 : s == [60, 105, 110, 105, 116, 62]
  · cases h2 : s == [60, 99, 108, 105, 110, 105, 116, 62]
    · simp [h, h1, h2]
    · simp [h1, h2]
  · simp [h1]

def ofV (s : List UInt8) : List UInt8 := if nameOk s = true then 76 :: (s ++ [59]) else []
def arrV (s : List UInt8) : List UInt8 := if typeOk (91 :: s) = true then 91 :: s else []
theorem ev109 (s : List UInt8) (hs : s.length + 1 ≤ 100000) : ev tab prim 109 [.str s] [[], []] = some (.str (arrV s), [[], []]) := by
  rw [ev_fn' tab prim (f := 109) rfl _ _ rfl]
  have h := ev55 (91 :: s) (by simpa using hs)
  have hb3 : 1 + s.length ≤ 9223372036854775807 := by omega
  unfold arrV
  cases hn : typeOk (91 :: s) <;> rw [hn] at h <;> simp [h, hb3]
theorem ev78 (s : List UInt8) (hs : s.length + 1 ≤ 100000) : ev tab prim 78 [.str s] [[], []] = some (.str (arrV s), [[], []]) := by
  rw [ev_fn' tab prim (f := 78) rfl _ _ rfl]
  have h := ev19 (91 :: s) (by simpa using hs)
  have hb3 : 1 + s.length ≤ 9223372036854775807 := by omega
  unfold arrV
  cases hn : typeOk (91 :: s) <;> rw [hn] at h <;> simp [h, hb3]

def elemV (s : List UInt8) : V := match s with
  | 91 :: r => if typeOk (91 :: r) = true then .tup [.str r, .bool true] else .tup [.str [], .bool false]
  | _ => .tup [.str [], .bool false]
theorem typeOk_nil : typeOk [] = false := by rfl
end Go.Proofs.YtgmlanhhjmhmmaaGreat.Ev
